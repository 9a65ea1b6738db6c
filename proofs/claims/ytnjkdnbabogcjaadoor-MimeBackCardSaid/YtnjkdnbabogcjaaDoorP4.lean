/- A walk, printed by a program of my own (wip/gen/walk.py) from a script of mine. -/
import Derived.Test.YtnjkdnbabogcjaaDoorProg
import Derived.Test.YtnjkdnbabogcjaaDoorL0
import Derived.Test.YtnjkdnbabogcjaaDoorP3
import Derived.Test.YtnjkdnbabogcjaaDoorQ3
set_option maxHeartbeats 4000000
set_option linter.unusedVariables false
set_option linter.unusedSimpArgs false
set_option maxRecDepth 100000
namespace Go.Proofs.YtnjkdnbabogcjaaDoor
open Go Go.RowKit Go.Kw

theorem number_ok (s : Bytes) (hs : s.length < 4611686018427387904) (w : World) : Rt Tryd.prog 43 #[S s] w fun v w' => Chg [] w.heap.size w w' ∧ ∃ (n : Int) (ok : Bool), v = .tuple #[.int .i64 n, .bool ok] ∧ (0 ≤ n ∧ n ≤ 9223372036854775807) ∧ (ok = true ↔ numS s ∧ valN s ≤ 9223372036854775807) ∧ (ok = true → n = valN s) := by
  refine enter (n := 47) (args := [S s]) Tryd.func43 rfl rfl (Nat.le_of_ble_eq_true (by kernel_rfl)) ?_
  refine at_seq (at_region ?_)
  refine ops_run2 (l' := [(0, S s), (2, .int .i64 0), (3, .bool false)]) (by kernel_rfl) ?_
  refine ops_nil (nx_seq (at_seq (at_region ?_)))
  refine ops_run1 (l' := [(0, S s), (2, .int .i64 0), (3, .bool false), (4, .int .i64 0)]) (by kernel_rfl) ?_
  refine ops_nil (nx_seq (at_seq (at_seq (at_region ?_))))
  refine ops_run1 (l' := [(0, S s), (2, .int .i64 0), (3, .bool false), (4, .int .i64 0), (5, .int .i64 0)]) (by kernel_rfl) ?_
  refine ops_nil (nx_seq (at_block ?_))
  refine at_loop (X := Nat × Nat) (fun x_ => [(0, S s), (2, .int .i64 0), (3, .bool false), (4, .int .i64 ((x_.2 : Int))), (5, .int .i64 ((x_.1 : Int)))]) (fun x_ W1 => Chg [] (w.heap.size) w W1 ∧ (x_.1 ≤ s.length) ∧ (x_.2 = valN (s.take x_.1)) ∧ (∀ j, j < x_.1 → 48 ≤ bAt s j ∧ bAt s j ≤ 57) ∧ (x_.2 ≤ 9223372036854775807)) (fun x_ => s.length - x_.1) (0, 0) (proj_sub [0, 2, 3, 4, 5] (by kernel_rfl)) ⟨(Chg.refl [] w), (show 0 ≤ s.length by first | omega | (simp only [List.length_append, List.length_cons, List.length_nil, List.length_take, List.length_drop, List.length_map]; omega)), (show 0 = valN (s.take 0) by rfl), (show ∀ j, j < 0 → 48 ≤ bAt s j ∧ bAt s j ≤ 57 by intro j hj; omega), (show 0 ≤ 9223372036854775807 by first | omega | (simp only [List.length_append, List.length_cons, List.length_nil, List.length_take, List.length_drop, List.length_map]; omega))⟩ ?_
  rintro ⟨i, n⟩ w1 ⟨h1, h2, h3, h4, h5⟩
  replace h1 : Chg [] (w.heap.size) w w1 := h1
  replace h2 : (i ≤ s.length) := h2
  replace h3 : (n = valN (s.take i)) := h3
  replace h4 : (∀ j, j < i → 48 ≤ bAt s j ∧ bAt s j ≤ 57) := h4
  replace h5 : (n ≤ 9223372036854775807) := h5
  have z1 := h1.size
  have hnv := h3
  have hd := h4
  refine at_seq (at_seq (at_region ?_))
  refine ops_run4 (l' := [(0, S s), (2, .int .i64 0), (3, .bool false), (4, .int .i64 ((n : Int))), (5, .int .i64 ((i : Int))), (10, .bool (decide (((i : Int) : Int) < ((s.length : Int) : Int))))]) (by kernel_rfl) ?_
  refine ops_nil (nx_seq ?_)
  refine at_ifp (((i : Int) : Int) < ((s.length : Int) : Int)) (by kernel_rfl) (fun q1 => ?_) (fun q1 => ?_)
  refine at_skip (nx_seq (at_seq (at_block (at_seq (at_region ?_)))))
  refine ops_run2 (l' := [(0, S s), (2, .int .i64 0), (3, .bool false), (4, .int .i64 ((n : Int))), (5, .int .i64 ((i : Int))), (13, S s), (14, .int .i64 ((i : Int)))]) (by kernel_rfl) ?_
  refine ops_at (b := s) (i := (i : Int)) (kd := .i64) i (by kernel_rfl) (by kernel_rfl) (by kernel_rfl) (by kernel_rfl) (by kernel_rfl) (by omega) (by omega) ?_
  have r1 := bAt_range s i
  refine ops_conv (a := bAt s i) (kd := .u8) (kd' := .i64) (by kernel_rfl) (by kernel_rfl) (by kernel_rfl) (by kernel_rfl) (by kernel_rfl) (show (-9223372036854775808 : Int) ≤ (bAt s i) by omega) (show (bAt s i) ≤ (9223372036854775807 : Int) by omega) ?_
  refine ops_sub_ (a := bAt s i) (b := 48) (kd := .i64) (by kernel_rfl) (by kernel_rfl) (by kernel_rfl) (by kernel_rfl) (show (-9223372036854775808 : Int) ≤ (bAt s i) - 48 by omega) (show (bAt s i) - 48 ≤ (9223372036854775807 : Int) by omega) ?_
  refine ops_run1 (l' := [(0, S s), (2, .int .i64 0), (3, .bool false), (4, .int .i64 ((n : Int))), (5, .int .i64 ((i : Int))), (6, .int .i64 ((bAt s i) - 48))]) (by kernel_rfl) ?_
  refine ops_nil (nx_seq (at_seq (at_seq (at_region ?_))))
  refine ops_run3 (l' := [(0, S s), (2, .int .i64 0), (3, .bool false), (4, .int .i64 ((n : Int))), (5, .int .i64 ((i : Int))), (6, .int .i64 ((bAt s i) - 48)), (20, .bool (decide (((bAt s i) - 48 : Int) < (0 : Int))))]) (by kernel_rfl) ?_
  by_cases q2 : ((bAt s i) - 48 : Int) < (0 : Int)
  rw [show (decide (((bAt s i) - 48 : Int) < (0 : Int))) = true from decide_eq_true q2]
  refine ops_run10 (l' := [(0, S s), (2, .int .i64 0), (3, .bool false), (4, .int .i64 ((n : Int))), (5, .int .i64 ((i : Int))), (6, .int .i64 ((bAt s i) - 48)), (30, .bool true)]) (by kernel_rfl) ?_
  refine ops_nil (nx_seq ?_)
  refine at_ift (by kernel_rfl) ?_
  refine at_seq (at_region ?_)
  refine ops_run2 (l' := [(0, S s), (2, .int .i64 0), (3, .bool false), (4, .int .i64 ((n : Int))), (5, .int .i64 ((i : Int))), (6, .int .i64 ((bAt s i) - 48))]) (by kernel_rfl) ?_
  refine ops_nil (nx_seq ?_)
  refine at_ret (rs := [.tmp 2, .tmp 3]) (vs := [.int .i64 0, .bool false]) rfl (by kernel_rfl) ?_
  refine ⟨_, rfl, ((Chg.refl [] w).step0 h1 (by omega)), _, _, rfl, by omega, ⟨fun h => (by cases h), fun h => ?_⟩, fun h => by cases h⟩
  exfalso
  have g1 := h.1.2.1 i (by omega)
  have g2 := valN_take (s := s) (i := i) (by omega) (by omega)
  have g3 := valN_take_le (s := s) (i + 1)
  omega
  rw [show (decide (((bAt s i) - 48 : Int) < (0 : Int))) = false from decide_eq_false q2]
  refine ops_run4 (l' := [(0, S s), (2, .int .i64 0), (3, .bool false), (4, .int .i64 ((n : Int))), (5, .int .i64 ((i : Int))), (6, .int .i64 ((bAt s i) - 48)), (24, .bool (decide (((bAt s i) - 48 : Int) > (9 : Int))))]) (by kernel_rfl) ?_
  by_cases q3 : ((bAt s i) - 48 : Int) > (9 : Int)
  rw [show (decide (((bAt s i) - 48 : Int) > (9 : Int))) = true from decide_eq_true q3]
  refine ops_run6 (l' := [(0, S s), (2, .int .i64 0), (3, .bool false), (4, .int .i64 ((n : Int))), (5, .int .i64 ((i : Int))), (6, .int .i64 ((bAt s i) - 48)), (30, .bool true)]) (by kernel_rfl) ?_
  refine ops_nil (nx_seq ?_)
  refine at_ift (by kernel_rfl) ?_
  refine at_seq (at_region ?_)
  refine ops_run2 (l' := [(0, S s), (2, .int .i64 0), (3, .bool false), (4, .int .i64 ((n : Int))), (5, .int .i64 ((i : Int))), (6, .int .i64 ((bAt s i) - 48))]) (by kernel_rfl) ?_
  refine ops_nil (nx_seq ?_)
  refine at_ret (rs := [.tmp 2, .tmp 3]) (vs := [.int .i64 0, .bool false]) rfl (by kernel_rfl) ?_
  refine ⟨_, rfl, ((Chg.refl [] w).step0 h1 (by omega)), _, _, rfl, by omega, ⟨fun h => (by cases h), fun h => ?_⟩, fun h => by cases h⟩
  exfalso
  have g1 := h.1.2.1 i (by omega)
  have g2 := valN_take (s := s) (i := i) (by omega) (by omega)
  have g3 := valN_take_le (s := s) (i + 1)
  omega
  rw [show (decide (((bAt s i) - 48 : Int) > (9 : Int))) = false from decide_eq_false q3]
  refine ops_run2 (l' := [(0, S s), (2, .int .i64 0), (3, .bool false), (4, .int .i64 ((n : Int))), (5, .int .i64 ((i : Int))), (6, .int .i64 ((bAt s i) - 48)), (24, .bool false), (25, .int .i64 ((n : Int))), (26, .int .i64 ((bAt s i) - 48))]) (by kernel_rfl) ?_
  refine ops_sub_ (a := 9223372036854775807) (b := (bAt s i) - 48) (kd := .i64) (by kernel_rfl) (by kernel_rfl) (by kernel_rfl) (by kernel_rfl) (show (-9223372036854775808 : Int) ≤ 9223372036854775807 - ((bAt s i) - 48) by omega) (show 9223372036854775807 - ((bAt s i) - 48) ≤ (9223372036854775807 : Int) by omega) ?_
  refine ops_quo (a := 9223372036854775807 - ((bAt s i) - 48)) (b := 10) (kd := .i64) (by kernel_rfl) (by kernel_rfl) (by kernel_rfl) (by kernel_rfl) (by omega) (by omega) (show _ ≤ (9223372036854775807 : Int) by omega) (by decide) ?_
  refine ops_run2 (l' := [(0, S s), (2, .int .i64 0), (3, .bool false), (4, .int .i64 ((n : Int))), (5, .int .i64 ((i : Int))), (6, .int .i64 ((bAt s i) - 48)), (30, .bool (decide (((n : Int) : Int) > ((9223372036854775807 - ((bAt s i) - 48)) / 10 : Int))))]) (by kernel_rfl) ?_
  refine ops_nil (nx_seq ?_)
  refine at_ifp (((n : Int) : Int) > ((9223372036854775807 - ((bAt s i) - 48)) / 10 : Int)) (by kernel_rfl) (fun q4 => ?_) (fun q4 => ?_)
  refine at_seq (at_region ?_)
  refine ops_run2 (l' := [(0, S s), (2, .int .i64 0), (3, .bool false), (4, .int .i64 ((n : Int))), (5, .int .i64 ((i : Int))), (6, .int .i64 ((bAt s i) - 48))]) (by kernel_rfl) ?_
  refine ops_nil (nx_seq ?_)
  refine at_ret (rs := [.tmp 2, .tmp 3]) (vs := [.int .i64 0, .bool false]) rfl (by kernel_rfl) ?_
  refine ⟨_, rfl, ((Chg.refl [] w).step0 h1 (by omega)), _, _, rfl, by omega, ⟨fun h => (by cases h), fun h => ?_⟩, fun h => by cases h⟩
  exfalso
  have g1 := h.1.2.1 i (by omega)
  have g2 := valN_take (s := s) (i := i) (by omega) (by omega)
  have g3 := valN_take_le (s := s) (i + 1)
  omega
  refine at_skip (nx_seq (at_region ?_))
  refine ops_run1 (l' := [(0, S s), (2, .int .i64 0), (3, .bool false), (4, .int .i64 ((n : Int))), (5, .int .i64 ((i : Int))), (6, .int .i64 ((bAt s i) - 48)), (31, .int .i64 ((n : Int)))]) (by kernel_rfl) ?_
  refine ops_mul (a := 10) (b := (n : Int)) (kd := .i64) (by kernel_rfl) (by kernel_rfl) (by kernel_rfl) (by kernel_rfl) (show (-9223372036854775808 : Int) ≤ 10 * ((n : Int)) by omega) (show 10 * ((n : Int)) ≤ (9223372036854775807 : Int) by omega) ?_
  refine ops_run1 (l' := [(0, S s), (2, .int .i64 0), (3, .bool false), (4, .int .i64 ((n : Int))), (5, .int .i64 ((i : Int))), (32, .int .i64 (10 * ((n : Int)))), (33, .int .i64 ((bAt s i) - 48))]) (by kernel_rfl) ?_
  refine ops_add (a := 10 * ((n : Int))) (b := (bAt s i) - 48) (kd := .i64) (by kernel_rfl) (by kernel_rfl) (by kernel_rfl) (by kernel_rfl) (show (-9223372036854775808 : Int) ≤ (10 * ((n : Int))) + ((bAt s i) - 48) by omega) (show (10 * ((n : Int))) + ((bAt s i) - 48) ≤ (9223372036854775807 : Int) by omega) ?_
  refine ops_run1 (l' := [(0, S s), (2, .int .i64 0), (3, .bool false), (4, .int .i64 ((10 * ((n : Int))) + ((bAt s i) - 48))), (5, .int .i64 ((i : Int)))]) (by kernel_rfl) ?_
  refine ops_nil (nx_blk (nx_seq (at_region ?_)))
  refine ops_run1 (l' := [(0, S s), (2, .int .i64 0), (3, .bool false), (4, .int .i64 ((10 * ((n : Int))) + ((bAt s i) - 48))), (5, .int .i64 ((i : Int))), (11, .int .i64 ((i : Int)))]) (by kernel_rfl) ?_
  refine ops_add (a := (i : Int)) (b := 1) (kd := .i64) (by kernel_rfl) (by kernel_rfl) (by kernel_rfl) (by kernel_rfl) (show (-9223372036854775808 : Int) ≤ ((i : Int)) + 1 by omega) (show ((i : Int)) + 1 ≤ (9223372036854775807 : Int) by omega) ?_
  refine ops_run1 (l' := [(0, S s), (2, .int .i64 0), (3, .bool false), (4, .int .i64 ((10 * ((n : Int))) + ((bAt s i) - 48))), (5, .int .i64 (((i : Int)) + 1))]) (by kernel_rfl) ?_
  refine ops_nil ?_
  have e1 : ((10 * ((n : Int))) + ((bAt s i) - 48) : Int) = (((valN (s.take (i + 1))) : Nat) : Int) := by (have hv := valN_take (s := s) (i := i) (by omega) (by omega); omega)
  have e2 : (((i : Int)) + 1 : Int) = (((i + 1) : Nat) : Int) := by (have hv := valN_take (s := s) (i := i) (by omega) (by omega); omega)
  refine nx_round (i + 1, valN (s.take (i + 1))) (proj_subE (l1 := [(0, S s), (2, .int .i64 0), (3, .bool false), (4, .int .i64 ((10 * ((n : Int))) + ((bAt s i) - 48))), (5, .int .i64 (((i : Int)) + 1))]) (l2 := [(0, S s), (2, .int .i64 0), (3, .bool false), (4, .int .i64 ((((valN (s.take (i + 1))) : Nat) : Int))), (5, .int .i64 ((((i + 1) : Nat) : Int)))]) (by kernel_rfl) (by simp only [e1]; simp only [e2]) (by kernel_rfl)) ⟨((Chg.refl [] w).step0 h1 (by omega)), (show (i + 1) ≤ s.length by first | omega | (simp only [List.length_append, List.length_cons, List.length_nil, List.length_take, List.length_drop, List.length_map]; omega)), (show (valN (s.take (i + 1))) = valN (s.take (i + 1)) by rfl), (show ∀ j, j < (i + 1) → 48 ≤ bAt s j ∧ bAt s j ≤ 57 by exact fun j hj => if e : j = i then (by rw [e]; omega) else hd j (by omega)), (show (valN (s.take (i + 1))) ≤ 9223372036854775807 by (have hv := valN_take (s := s) (i := i) (by omega) (by omega); omega))⟩ (show s.length - (i + 1) < s.length - i by omega)
  refine at_exit (ex_seq (ex_inv (ex_here (nx_seq (at_seq (at_region ?_))))))
  refine ops_run2 (l' := [(0, S s), (2, .int .i64 0), (3, .bool false), (35, .int .i64 ((n : Int))), (36, S s)]) (by kernel_rfl) ?_
  refine ops_neS (a := s) (b := []) (by kernel_rfl) (by kernel_rfl) (by kernel_rfl) (by kernel_rfl) ?_
  refine ops_run1 (l' := [(0, S s), (2, .int .i64 0), (3, .bool false), (35, .int .i64 ((n : Int))), (38, .bool (decide ((s : Bytes) ≠ [])))]) (by kernel_rfl) ?_
  by_cases q5 : (s : Bytes) ≠ []
  rw [show (decide ((s : Bytes) ≠ [])) = true from decide_eq_true q5]
  have l1 := List.length_pos_iff.2 q5
  refine ops_run1 (l' := [(0, S s), (2, .int .i64 0), (3, .bool false), (35, .int .i64 ((n : Int))), (38, .bool true), (39, S s)]) (by kernel_rfl) ?_
  refine ops_at (b := s) (i := 0) (kd := .i64) 0 (by kernel_rfl) (by kernel_rfl) (by kernel_rfl) (by kernel_rfl) (by kernel_rfl) (by omega) (by omega) ?_
  have r2 := bAt_range s 0
  refine ops_run2 (l' := [(0, S s), (2, .int .i64 0), (3, .bool false), (35, .int .i64 ((n : Int))), (38, .bool true), (42, .bool (!(decide ((bAt s 0 : Int) = (48 : Int)))))]) (by kernel_rfl) ?_
  by_cases q6 : (bAt s 0 : Int) = (48 : Int)
  rw [show (decide ((bAt s 0 : Int) = (48 : Int))) = true from decide_eq_true q6]
  refine ops_run1 (l' := [(2, .int .i64 0), (3, .bool false), (35, .int .i64 ((n : Int))), (38, .bool true), (42, .bool false), (43, S s)]) (by kernel_rfl) ?_
  refine ops_eqS (a := s) (b := [48]) (by kernel_rfl) (by kernel_rfl) (by kernel_rfl) (by kernel_rfl) ?_
  refine ops_run4 (l' := [(2, .int .i64 ((n : Int))), (3, .bool (decide ((s : Bytes) = [48])))]) (by kernel_rfl) ?_
  refine ops_nil (nx_seq ?_)
  refine at_ret (rs := [.tmp 2, .tmp 3]) (vs := [.int .i64 ((n : Int)), .bool (decide ((s : Bytes) = [48]))]) rfl (by kernel_rfl) ?_
  have e9 : i = s.length := by omega
  subst e9
  rw [List.take_length] at hnv
  refine ⟨_, rfl, ((Chg.refl [] w).step0 h1 (by omega)), _, _, rfl, by omega, ?_, fun _ => by omega⟩
  rw [decide_eq_true_eq]
  refine ⟨fun h => ⟨⟨List.length_pos_iff.1 (by omega), hd, fun _ => by rw [h]; rfl⟩, by omega⟩, fun h => ?_⟩
  have g3 := h.1.2.2 (by omega)
  obtain ⟨c, rfl⟩ := List.length_eq_one_iff.1 g3
  have g4 : (c.toNat : Int) = 48 := by assumption
  rw [eq_byte (k := 48) (by omega) g4]; rfl
  rw [show (decide ((bAt s 0 : Int) = (48 : Int))) = false from decide_eq_false q6]
  refine ops_run6 (l' := [(2, .int .i64 ((n : Int))), (3, .bool true)]) (by kernel_rfl) ?_
  refine ops_nil (nx_seq ?_)
  refine at_ret (rs := [.tmp 2, .tmp 3]) (vs := [.int .i64 ((n : Int)), .bool true]) rfl (by kernel_rfl) ?_
  have e9 : i = s.length := by omega
  subst e9
  rw [List.take_length] at hnv
  refine ⟨_, rfl, ((Chg.refl [] w).step0 h1 (by omega)), _, _, rfl, by omega, by exact ⟨fun _ => ⟨⟨List.length_pos_iff.1 (by omega), hd, fun h => by first | omega | (rw [q_eq]; rfl)⟩, by omega⟩, fun _ => rfl⟩, fun _ => by omega⟩
  rw [show (decide ((s : Bytes) ≠ [])) = false from decide_eq_false q5]
  have l2 : s.length = 0 := by rw [Decidable.of_not_not q5]; rfl
  refine ops_run10 (l' := [(2, .int .i64 ((n : Int))), (3, .bool false)]) (by kernel_rfl) ?_
  refine ops_nil (nx_seq ?_)
  refine at_ret (rs := [.tmp 2, .tmp 3]) (vs := [.int .i64 ((n : Int)), .bool false]) rfl (by kernel_rfl) ?_
  have e9 : i = s.length := by omega
  subst e9
  rw [List.take_length] at hnv
  refine ⟨_, rfl, ((Chg.refl [] w).step0 h1 (by omega)), _, _, rfl, by omega, by exact ⟨fun h => (by cases h), fun h => by exfalso; have g1 := h.1.2.2; have g2 := List.length_pos_iff.2 h.1.1; first | omega | (have g3 := g1 (by omega); exact absurd g3 (by omega))⟩, fun _ => by omega⟩
theorem cut_ok (b : Bytes) {w : World} {lo hi : Nat} {v : Value} (hb : Bs w lo hi v b) (hs : b.length < 4611686018427387904) : Rt Tryd.prog 36 #[v] w fun u w' => Chg [] w.heap.size w w' ∧ ((∃ (n : Nat) (x : Bytes) (v' : Value), u = .tuple #[v', .int .i64 n] ∧ 1 ≤ n ∧ n ≤ b.length ∧ CutR b x (b.drop n) ∧ Bs w' lo hi v' x) ∨ ((∀ x r, ¬ CutR b x r) ∧ u = .tuple #[.slice none 0 0, .int .i64 0])) := by
  have hhi := hb.hi_le
  refine enter (n := 80) (args := [v]) Tryd.func36 rfl rfl (Nat.le_of_ble_eq_true (by kernel_rfl)) ?_
  refine at_seq (at_region ?_)
  refine ops_run2 (l' := [(0, v), (2, .slice none 0 0), (3, .int .i64 0)]) (by kernel_rfl) ?_
  refine ops_nil (nx_seq (at_seq (at_region ?_)))
  refine ops_run2 (l' := [(0, v), (2, .slice none 0 0), (3, .int .i64 0), (8, v), (9, v)]) (by kernel_rfl) ?_
  refine ops_len (e := 5) (by kernel_rfl) (by kernel_rfl) (by kernel_rfl) (by kernel_rfl) hb ?_
  refine ops_min (a := (b.length : Int)) (b := 9) (kd := .i64) (by kernel_rfl) (by kernel_rfl) (by kernel_rfl) (by kernel_rfl) ?_
  refine ops_upto (e := 5) (i' := min ((b.length : Int) : Int) 9) (kd' := .i64) (min b.length 9) (by kernel_rfl) (by kernel_rfl) (by kernel_rfl) (by kernel_rfl) (by kernel_rfl) (by kernel_rfl) hb (by first | omega | (simp only [List.length_append, List.length_cons, List.length_nil, List.length_take, List.length_drop, List.length_map]; omega)) (by first | omega | (simp only [List.length_append, List.length_cons, List.length_nil, List.length_take, List.length_drop, List.length_map]; omega)) (fun v1 h1 => ?_)
  replace h1 := bs_upto h1 (by omega)
  refine ops_callr (by kernel_rfl) (by kernel_rfl) (by kernel_rfl) (bytes_IndexByte_ok h1 58) ?_
  rintro _ w1 ⟨rfl, c1⟩
  have z1 := c1.size
  rcases indexByte_cases (b.take (min b.length 9)) 58 with ⟨hq, hn⟩ | ⟨i, hi1, hq, hi3, hi4⟩
  rw [hq]
  refine ops_run1 (l' := [(0, v), (2, .slice none 0 0), (3, .int .i64 0), (4, .int .i64 (-1))]) (by kernel_rfl) ?_
  refine ops_nil (nx_seq (at_seq (at_seq (at_region ?_))))
  refine ops_run12 (l' := [(0, v), (2, .slice none 0 0), (3, .int .i64 0), (4, .int .i64 (-1)), (25, .bool true)]) (by kernel_rfl) ?_
  refine ops_nil (nx_seq ?_)
  refine at_ift (by kernel_rfl) ?_
  refine at_seq (at_region ?_)
  refine ops_run2 (l' := [(0, v), (2, .slice none 0 0), (3, .int .i64 0), (4, .int .i64 (-1))]) (by kernel_rfl) ?_
  refine ops_nil (nx_seq ?_)
  refine at_ret (rs := [.tmp 2, .tmp 3]) (vs := [.slice none 0 0, .int .i64 0]) rfl (by kernel_rfl) ?_
  refine ⟨_, rfl, ((Chg.refl [] w).step0 c1 (by omega)), .inr ⟨fun x r h => ?_, rfl⟩⟩
  obtain ⟨i0, a, _, _⟩ := cutAt_of h
  have g1 := a.h1; have g8 := a.h8; have g2 := a.h0; have g3 := a.hl; have g4 := a.hm; have g5 := a.hk; have g6 := a.hn; have g7 := a.hc
  exact hn i0 (by rw [List.length_take]; omega) (by rw [bAt_take (by omega)]; exact g7)
  rw [hq]
  rw [List.length_take] at hi1
  have hlen : (b.take i).length = i := by rw [List.length_take]; omega
  have hc1 : bAt b i = 58 := (bAt_take (by omega)).symm.trans hi3
  have hf : ∀ j, j < i → bAt b j ≠ 58 := fun j hj => by have := hi4 j hj; rwa [bAt_take (by omega)] at this
  refine ops_run1 (l' := [(0, v), (2, .slice none 0 0), (3, .int .i64 0), (4, .int .i64 ((i : Int)))]) (by kernel_rfl) ?_
  refine ops_nil (nx_seq (at_seq (at_seq (at_region ?_))))
  refine ops_run3 (l' := [(0, v), (2, .slice none 0 0), (3, .int .i64 0), (4, .int .i64 ((i : Int))), (16, .bool (decide (((i : Int) : Int) < (1 : Int))))]) (by kernel_rfl) ?_
  by_cases q1 : ((i : Int) : Int) < (1 : Int)
  rw [show (decide (((i : Int) : Int) < (1 : Int))) = true from decide_eq_true q1]
  refine ops_run9 (l' := [(0, v), (2, .slice none 0 0), (3, .int .i64 0), (4, .int .i64 ((i : Int))), (25, .bool true)]) (by kernel_rfl) ?_
  refine ops_nil (nx_seq ?_)
  refine at_ift (by kernel_rfl) ?_
  refine at_seq (at_region ?_)
  refine ops_run2 (l' := [(0, v), (2, .slice none 0 0), (3, .int .i64 0), (4, .int .i64 ((i : Int)))]) (by kernel_rfl) ?_
  refine ops_nil (nx_seq ?_)
  refine at_ret (rs := [.tmp 2, .tmp 3]) (vs := [.slice none 0 0, .int .i64 0]) rfl (by kernel_rfl) ?_
  refine ⟨_, rfl, ((Chg.refl [] w).step0 c1 (by omega)), .inr ⟨fun x r h => ?_, rfl⟩⟩
  obtain ⟨i0, a, _, _⟩ := cutAt_of h
  have g1 := a.h1; have g8 := a.h8; have g2 := a.h0; have g3 := a.hl; have g4 := a.hm; have g5 := a.hk; have g6 := a.hn; have g7 := a.hc
  have e8 := CutAt.first hf hc1 a
  subst e8
  first
    | omega
    | (have g9 := a.hd k (by omega); omega)
    | (rw [show i0 = k by omega, ← hnv] at g6; rw [← g6] at g5 g3 g4; omega)
  rw [show (decide (((i : Int) : Int) < (1 : Int))) = false from decide_eq_false q1]
  refine ops_run1 (l' := [(0, v), (2, .slice none 0 0), (3, .int .i64 0), (4, .int .i64 ((i : Int))), (16, .bool false), (17, v)]) (by kernel_rfl) ?_
  have h3 := hb.keep0 c1 (by omega)
  refine ops_idx (e := 5) (i := 0) (kd := .i64) 0 (by kernel_rfl) (by kernel_rfl) (by kernel_rfl) (by kernel_rfl) (by kernel_rfl) (by kernel_rfl) h3 (by omega) (by first | omega | (simp only [List.length_append, List.length_cons, List.length_nil, List.length_take, List.length_drop, List.length_map]; omega)) (fun a1 h4 => ?_)
  have h5 := cell_bAt (l := b) (j := 0) h4 (by first | omega | (simp only [List.length_append, List.length_cons, List.length_nil, List.length_take, List.length_drop, List.length_map]; omega))
  have r1 := bAt_range b 0
  refine ops_load (by kernel_rfl) (by kernel_rfl) (by kernel_rfl) (by kernel_rfl) h5 ?_
  refine ops_run2 (l' := [(0, v), (2, .slice none 0 0), (3, .int .i64 0), (4, .int .i64 ((i : Int))), (16, .bool false), (21, .bool (decide ((bAt b 0 : Int) = (48 : Int))))]) (by kernel_rfl) ?_
  by_cases q2 : (bAt b 0 : Int) = (48 : Int)
  rw [show (decide ((bAt b 0 : Int) = (48 : Int))) = true from decide_eq_true q2]
  refine ops_run4 (l' := [(0, v), (2, .slice none 0 0), (3, .int .i64 0), (4, .int .i64 ((i : Int))), (25, .bool (decide (((i : Int) : Int) > (1 : Int))))]) (by kernel_rfl) ?_
  refine ops_nil (nx_seq ?_)
  refine at_ifp (((i : Int) : Int) > (1 : Int)) (by kernel_rfl) (fun q3 => ?_) (fun q3 => ?_)
  refine at_seq (at_region ?_)
  refine ops_run2 (l' := [(0, v), (2, .slice none 0 0), (3, .int .i64 0), (4, .int .i64 ((i : Int)))]) (by kernel_rfl) ?_
  refine ops_nil (nx_seq ?_)
  refine at_ret (rs := [.tmp 2, .tmp 3]) (vs := [.slice none 0 0, .int .i64 0]) rfl (by kernel_rfl) ?_
  refine ⟨_, rfl, ((Chg.refl [] w).step0 c1 (by omega)), .inr ⟨fun x r h => ?_, rfl⟩⟩
  obtain ⟨i0, a, _, _⟩ := cutAt_of h
  have g1 := a.h1; have g8 := a.h8; have g2 := a.h0; have g3 := a.hl; have g4 := a.hm; have g5 := a.hk; have g6 := a.hn; have g7 := a.hc
  have e8 := CutAt.first hf hc1 a
  subst e8
  first
    | omega
    | (have g9 := a.hd k (by omega); omega)
    | (rw [show i0 = k by omega, ← hnv] at g6; rw [← g6] at g5 g3 g4; omega)
  refine at_skip (nx_seq (at_seq (at_region ?_)))
  refine ops_run1 (l' := [(0, v), (2, .slice none 0 0), (3, .int .i64 0), (4, .int .i64 ((i : Int))), (5, .int .i64 0)]) (by kernel_rfl) ?_
  refine ops_nil (nx_seq (at_seq (at_seq (at_region ?_))))
  refine ops_run2 (l' := [(0, v), (2, .slice none 0 0), (3, .int .i64 0), (4, .int .i64 ((i : Int))), (5, .int .i64 0), (26, v), (27, .int .i64 ((i : Int)))]) (by kernel_rfl) ?_
  refine ops_upto (e := 5) (i' := (i : Int)) (kd' := .i64) i (by kernel_rfl) (by kernel_rfl) (by kernel_rfl) (by kernel_rfl) (by kernel_rfl) (by kernel_rfl) h3 (by first | omega | (simp only [List.length_append, List.length_cons, List.length_nil, List.length_take, List.length_drop, List.length_map]; omega)) (by first | omega | (simp only [List.length_append, List.length_cons, List.length_nil, List.length_take, List.length_drop, List.length_map]; omega)) (fun v2 h6 => ?_)
  replace h6 := bs_upto h6 (by omega)
  refine ops_len (e := 5) (by kernel_rfl) (by kernel_rfl) (by kernel_rfl) (by kernel_rfl) h6 ?_
  refine ops_run1 (l' := [(0, v), (2, .slice none 0 0), (3, .int .i64 0), (4, .int .i64 ((i : Int))), (5, .int .i64 0), (28, v2), (29, .int .i64 (((((b.take i).length) : Nat) : Int))), (30, .int .i64 0)]) (by kernel_rfl) ?_
  refine ops_nil (nx_seq (at_block ?_))
  refine at_loop (X := Nat × Nat) (fun x_ => [(0, v), (2, .slice none 0 0), (3, .int .i64 0), (4, .int .i64 ((i : Int))), (5, .int .i64 ((x_.2 : Int))), (28, v2), (29, .int .i64 (((((b.take i).length) : Nat) : Int))), (30, .int .i64 ((x_.1 : Int)))]) (fun x_ W1 => Chg [] (w1.heap.size) w1 W1 ∧ (x_.1 ≤ i) ∧ (x_.2 = valN (b.take x_.1)) ∧ (∀ j, j < x_.1 → 48 ≤ bAt b j ∧ bAt b j ≤ 57)) (fun x_ => i - x_.1) (0, 0) (proj_sub [0, 2, 3, 4, 5, 28, 29, 30] (by kernel_rfl)) ⟨(Chg.refl [] w1), (show 0 ≤ i by first | omega | (simp only [List.length_append, List.length_cons, List.length_nil, List.length_take, List.length_drop, List.length_map]; omega)), (show 0 = valN (b.take 0) by rfl), (show ∀ j, j < 0 → 48 ≤ bAt b j ∧ bAt b j ≤ 57 by intro j hj; omega)⟩ ?_
  rintro ⟨k, n⟩ w2 ⟨h8, h9, h10, h11⟩
  replace h8 : Chg [] (w1.heap.size) w1 w2 := h8
  replace h9 : (k ≤ i) := h9
  replace h10 : (n = valN (b.take k)) := h10
  replace h11 : (∀ j, j < k → 48 ≤ bAt b j ∧ bAt b j ≤ 57) := h11
  have z2 := h8.size
  have hnv := h10
  have hd := h11
  have hnb := valN_small hd (by omega)
  refine at_seq (at_region ?_)
  refine ops_run1 (l' := [(0, v), (2, .slice none 0 0), (3, .int .i64 0), (4, .int .i64 ((i : Int))), (5, .int .i64 ((n : Int))), (28, v2), (29, .int .i64 (((((b.take i).length) : Nat) : Int))), (30, .int .i64 ((k : Int))), (31, .bool (decide (((k : Int) : Int) < (((((b.take i).length) : Nat) : Int) : Int))))]) (by kernel_rfl) ?_
  refine ops_nil (nx_seq (at_seq ?_))
  refine at_ifp (((k : Int) : Int) < (((((b.take i).length) : Nat) : Int) : Int)) (by kernel_rfl) (fun q4 => ?_) (fun q4 => ?_)
  refine at_skip (nx_seq (at_seq (at_block (at_seq (at_region ?_)))))
  have h12 := h6.keep0 h8 (by omega)
  refine ops_idx (e := 5) (i := (k : Int)) (kd := .i64) k (by kernel_rfl) (by kernel_rfl) (by kernel_rfl) (by kernel_rfl) (by kernel_rfl) (by kernel_rfl) h12 (by omega) (by first | omega | (simp only [List.length_append, List.length_cons, List.length_nil, List.length_take, List.length_drop, List.length_map]; omega)) (fun a2 h13 => ?_)
  have h14 := cell_bAt (l := b.take i) (j := k) h13 (by first | omega | (simp only [List.length_append, List.length_cons, List.length_nil, List.length_take, List.length_drop, List.length_map]; omega))
  have r2 := bAt_range (b.take i) k
  refine ops_load (by kernel_rfl) (by kernel_rfl) (by kernel_rfl) (by kernel_rfl) h14 ?_
  have hbt : bAt (b.take i) k = bAt b k := bAt_take (by omega)
  refine ops_run1 (l' := [(0, v), (2, .slice none 0 0), (3, .int .i64 0), (4, .int .i64 ((i : Int))), (5, .int .i64 ((n : Int))), (7, .int .u8 (bAt (b.take i) k)), (28, v2), (29, .int .i64 (((((b.take i).length) : Nat) : Int))), (30, .int .i64 ((k : Int)))]) (by kernel_rfl) ?_
  refine ops_nil (nx_seq (at_seq (at_seq (at_region ?_))))
  refine ops_run3 (l' := [(0, v), (2, .slice none 0 0), (3, .int .i64 0), (4, .int .i64 ((i : Int))), (5, .int .i64 ((n : Int))), (7, .int .u8 (bAt (b.take i) k)), (28, v2), (29, .int .i64 (((((b.take i).length) : Nat) : Int))), (30, .int .i64 ((k : Int))), (36, .bool (decide ((bAt (b.take i) k : Int) < (48 : Int))))]) (by kernel_rfl) ?_
  by_cases q5 : (bAt (b.take i) k : Int) < (48 : Int)
  rw [show (decide ((bAt (b.take i) k : Int) < (48 : Int))) = true from decide_eq_true q5]
  refine ops_run3 (l' := [(0, v), (2, .slice none 0 0), (3, .int .i64 0), (4, .int .i64 ((i : Int))), (5, .int .i64 ((n : Int))), (7, .int .u8 (bAt (b.take i) k)), (28, v2), (29, .int .i64 (((((b.take i).length) : Nat) : Int))), (30, .int .i64 ((k : Int))), (39, .bool true)]) (by kernel_rfl) ?_
  refine ops_nil (nx_seq ?_)
  refine at_ift (by kernel_rfl) ?_
  refine at_seq (at_region ?_)
  refine ops_run2 (l' := [(0, v), (2, .slice none 0 0), (3, .int .i64 0), (4, .int .i64 ((i : Int))), (5, .int .i64 ((n : Int))), (7, .int .u8 (bAt (b.take i) k)), (28, v2), (29, .int .i64 (((((b.take i).length) : Nat) : Int))), (30, .int .i64 ((k : Int)))]) (by kernel_rfl) ?_
  refine ops_nil (nx_seq ?_)
  refine at_ret (rs := [.tmp 2, .tmp 3]) (vs := [.slice none 0 0, .int .i64 0]) rfl (by kernel_rfl) ?_
  refine ⟨_, rfl, (((Chg.refl [] w).step0 c1 (by omega)).step0 h8 (by omega)), .inr ⟨fun x r h => ?_, rfl⟩⟩
  obtain ⟨i0, a, _, _⟩ := cutAt_of h
  have g1 := a.h1; have g8 := a.h8; have g2 := a.h0; have g3 := a.hl; have g4 := a.hm; have g5 := a.hk; have g6 := a.hn; have g7 := a.hc
  have e8 := CutAt.first hf hc1 a
  subst e8
  first
    | omega
    | (have g9 := a.hd k (by omega); omega)
    | (rw [show i0 = k by omega, ← hnv] at g6; rw [← g6] at g5 g3 g4; omega)
  rw [show (decide ((bAt (b.take i) k : Int) < (48 : Int))) = false from decide_eq_false q5]
  refine ops_run3 (l' := [(0, v), (2, .slice none 0 0), (3, .int .i64 0), (4, .int .i64 ((i : Int))), (5, .int .i64 ((n : Int))), (7, .int .u8 (bAt (b.take i) k)), (28, v2), (29, .int .i64 (((((b.take i).length) : Nat) : Int))), (30, .int .i64 ((k : Int))), (39, .bool (decide ((bAt (b.take i) k : Int) > (57 : Int))))]) (by kernel_rfl) ?_
  refine ops_nil (nx_seq ?_)
  refine at_ifp ((bAt (b.take i) k : Int) > (57 : Int)) (by kernel_rfl) (fun q6 => ?_) (fun q6 => ?_)
  refine at_seq (at_region ?_)
  refine ops_run2 (l' := [(0, v), (2, .slice none 0 0), (3, .int .i64 0), (4, .int .i64 ((i : Int))), (5, .int .i64 ((n : Int))), (7, .int .u8 (bAt (b.take i) k)), (28, v2), (29, .int .i64 (((((b.take i).length) : Nat) : Int))), (30, .int .i64 ((k : Int)))]) (by kernel_rfl) ?_
  refine ops_nil (nx_seq ?_)
  refine at_ret (rs := [.tmp 2, .tmp 3]) (vs := [.slice none 0 0, .int .i64 0]) rfl (by kernel_rfl) ?_
  refine ⟨_, rfl, (((Chg.refl [] w).step0 c1 (by omega)).step0 h8 (by omega)), .inr ⟨fun x r h => ?_, rfl⟩⟩
  obtain ⟨i0, a, _, _⟩ := cutAt_of h
  have g1 := a.h1; have g8 := a.h8; have g2 := a.h0; have g3 := a.hl; have g4 := a.hm; have g5 := a.hk; have g6 := a.hn; have g7 := a.hc
  have e8 := CutAt.first hf hc1 a
  subst e8
  first
    | omega
    | (have g9 := a.hd k (by omega); omega)
    | (rw [show i0 = k by omega, ← hnv] at g6; rw [← g6] at g5 g3 g4; omega)
  refine at_skip (nx_seq (at_region ?_))
  refine ops_run1 (l' := [(0, v), (2, .slice none 0 0), (3, .int .i64 0), (4, .int .i64 ((i : Int))), (5, .int .i64 ((n : Int))), (7, .int .u8 (bAt (b.take i) k)), (28, v2), (29, .int .i64 (((((b.take i).length) : Nat) : Int))), (30, .int .i64 ((k : Int))), (40, .int .i64 ((n : Int)))]) (by kernel_rfl) ?_
  refine ops_mul (a := 10) (b := (n : Int)) (kd := .i64) (by kernel_rfl) (by kernel_rfl) (by kernel_rfl) (by kernel_rfl) (show (-9223372036854775808 : Int) ≤ 10 * ((n : Int)) by omega) (show 10 * ((n : Int)) ≤ (9223372036854775807 : Int) by omega) ?_
  refine ops_run1 (l' := [(0, v), (2, .slice none 0 0), (3, .int .i64 0), (4, .int .i64 ((i : Int))), (5, .int .i64 ((n : Int))), (28, v2), (29, .int .i64 (((((b.take i).length) : Nat) : Int))), (30, .int .i64 ((k : Int))), (41, .int .i64 (10 * ((n : Int)))), (42, .int .u8 (bAt (b.take i) k))]) (by kernel_rfl) ?_
  refine ops_sub_ (a := bAt (b.take i) k) (b := 48) (kd := .u8) (by kernel_rfl) (by kernel_rfl) (by kernel_rfl) (by kernel_rfl) (show (0 : Int) ≤ (bAt (b.take i) k) - 48 by omega) (show (bAt (b.take i) k) - 48 ≤ (255 : Int) by omega) ?_
  refine ops_conv (a := (bAt (b.take i) k) - 48) (kd := .u8) (kd' := .i64) (by kernel_rfl) (by kernel_rfl) (by kernel_rfl) (by kernel_rfl) (by kernel_rfl) (show (-9223372036854775808 : Int) ≤ ((bAt (b.take i) k) - 48) by omega) (show ((bAt (b.take i) k) - 48) ≤ (9223372036854775807 : Int) by omega) ?_
  refine ops_add (a := 10 * ((n : Int))) (b := (bAt (b.take i) k) - 48) (kd := .i64) (by kernel_rfl) (by kernel_rfl) (by kernel_rfl) (by kernel_rfl) (show (-9223372036854775808 : Int) ≤ (10 * ((n : Int))) + ((bAt (b.take i) k) - 48) by omega) (show (10 * ((n : Int))) + ((bAt (b.take i) k) - 48) ≤ (9223372036854775807 : Int) by omega) ?_
  refine ops_run1 (l' := [(0, v), (2, .slice none 0 0), (3, .int .i64 0), (4, .int .i64 ((i : Int))), (5, .int .i64 ((10 * ((n : Int))) + ((bAt (b.take i) k) - 48))), (28, v2), (29, .int .i64 (((((b.take i).length) : Nat) : Int))), (30, .int .i64 ((k : Int)))]) (by kernel_rfl) ?_
  refine ops_nil (nx_blk (nx_seq (at_region ?_)))
  refine ops_add (a := (k : Int)) (b := 1) (kd := .i64) (by kernel_rfl) (by kernel_rfl) (by kernel_rfl) (by kernel_rfl) (show (-9223372036854775808 : Int) ≤ ((k : Int)) + 1 by omega) (show ((k : Int)) + 1 ≤ (9223372036854775807 : Int) by omega) ?_
  refine ops_run1 (l' := [(0, v), (2, .slice none 0 0), (3, .int .i64 0), (4, .int .i64 ((i : Int))), (5, .int .i64 ((10 * ((n : Int))) + ((bAt (b.take i) k) - 48))), (28, v2), (29, .int .i64 (((((b.take i).length) : Nat) : Int))), (30, .int .i64 (((k : Int)) + 1))]) (by kernel_rfl) ?_
  refine ops_nil ?_
  have e1 : ((10 * ((n : Int))) + ((bAt (b.take i) k) - 48) : Int) = (((valN (b.take (k + 1))) : Nat) : Int) := by (have hv := valN_take (s := b) (i := k) (by omega) (by omega); omega)
  have e2 : (((k : Int)) + 1 : Int) = (((k + 1) : Nat) : Int) := by (have hv := valN_take (s := b) (i := k) (by omega) (by omega); omega)
  refine nx_round (k + 1, valN (b.take (k + 1))) (proj_subE (l1 := [(0, v), (2, .slice none 0 0), (3, .int .i64 0), (4, .int .i64 ((i : Int))), (5, .int .i64 ((10 * ((n : Int))) + ((bAt (b.take i) k) - 48))), (28, v2), (29, .int .i64 (((((b.take i).length) : Nat) : Int))), (30, .int .i64 (((k : Int)) + 1))]) (l2 := [(0, v), (2, .slice none 0 0), (3, .int .i64 0), (4, .int .i64 ((i : Int))), (5, .int .i64 ((((valN (b.take (k + 1))) : Nat) : Int))), (28, v2), (29, .int .i64 (((((b.take i).length) : Nat) : Int))), (30, .int .i64 ((((k + 1) : Nat) : Int)))]) (by kernel_rfl) (by simp only [e1]; simp only [e2]) (by kernel_rfl)) ⟨((Chg.refl [] w1).step0 h8 (by omega)), (show (k + 1) ≤ i by first | omega | (simp only [List.length_append, List.length_cons, List.length_nil, List.length_take, List.length_drop, List.length_map]; omega)), (show (valN (b.take (k + 1))) = valN (b.take (k + 1)) by rfl), (show ∀ j, j < (k + 1) → 48 ≤ bAt b j ∧ bAt b j ≤ 57 by exact fun j hj => if e : j = k then (by rw [e]; omega) else hd j (by omega))⟩ (show i - (k + 1) < i - k by omega)
  refine at_exit (ex_seq (ex_inv (ex_here (nx_seq (at_seq (at_seq (at_region ?_)))))))
  refine ops_run3 (l' := [(0, v), (2, .slice none 0 0), (3, .int .i64 0), (4, .int .i64 ((i : Int))), (5, .int .i64 ((n : Int))), (49, .bool (decide (((n : Int) : Int) > (1000000 : Int))))]) (by kernel_rfl) ?_
  by_cases q7 : ((n : Int) : Int) > (1000000 : Int)
  rw [show (decide (((n : Int) : Int) > (1000000 : Int))) = true from decide_eq_true q7]
  refine ops_run18 (l' := [(0, v), (2, .slice none 0 0), (3, .int .i64 0), (4, .int .i64 ((i : Int))), (5, .int .i64 ((n : Int))), (67, .bool true)]) (by kernel_rfl) ?_
  refine ops_nil (nx_seq ?_)
  refine at_ift (by kernel_rfl) ?_
  refine at_seq (at_region ?_)
  refine ops_run2 (l' := [(0, v), (2, .slice none 0 0), (3, .int .i64 0), (4, .int .i64 ((i : Int))), (5, .int .i64 ((n : Int)))]) (by kernel_rfl) ?_
  refine ops_nil (nx_seq ?_)
  refine at_ret (rs := [.tmp 2, .tmp 3]) (vs := [.slice none 0 0, .int .i64 0]) rfl (by kernel_rfl) ?_
  refine ⟨_, rfl, (((Chg.refl [] w).step0 c1 (by omega)).step0 h8 (by omega)), .inr ⟨fun x r h => ?_, rfl⟩⟩
  obtain ⟨i0, a, _, _⟩ := cutAt_of h
  have g1 := a.h1; have g8 := a.h8; have g2 := a.h0; have g3 := a.hl; have g4 := a.hm; have g5 := a.hk; have g6 := a.hn; have g7 := a.hc
  have e8 := CutAt.first hf hc1 a
  subst e8
  first
    | omega
    | (have g9 := a.hd k (by omega); omega)
    | (rw [show i0 = k by omega, ← hnv] at g6; rw [← g6] at g5 g3 g4; omega)
  rw [show (decide (((n : Int) : Int) > (1000000 : Int))) = false from decide_eq_false q7]
  refine ops_run2 (l' := [(0, v), (2, .slice none 0 0), (3, .int .i64 0), (4, .int .i64 ((i : Int))), (5, .int .i64 ((n : Int))), (49, .bool false), (50, .int .i64 ((n : Int))), (51, v)]) (by kernel_rfl) ?_
  have h15 := h3.keep0 h8 (by omega)
  refine ops_len (e := 5) (by kernel_rfl) (by kernel_rfl) (by kernel_rfl) (by kernel_rfl) h15 ?_
  refine ops_run1 (l' := [(0, v), (2, .slice none 0 0), (3, .int .i64 0), (4, .int .i64 ((i : Int))), (5, .int .i64 ((n : Int))), (49, .bool false), (50, .int .i64 ((n : Int))), (52, .int .i64 ((b.length : Int))), (53, .int .i64 ((i : Int)))]) (by kernel_rfl) ?_
  refine ops_sub_ (a := (b.length : Int)) (b := (i : Int)) (kd := .i64) (by kernel_rfl) (by kernel_rfl) (by kernel_rfl) (by kernel_rfl) (show (-9223372036854775808 : Int) ≤ ((b.length : Int)) - ((i : Int)) by omega) (show ((b.length : Int)) - ((i : Int)) ≤ (9223372036854775807 : Int) by omega) ?_
  refine ops_sub_ (a := ((b.length : Int)) - ((i : Int))) (b := 1) (kd := .i64) (by kernel_rfl) (by kernel_rfl) (by kernel_rfl) (by kernel_rfl) (show (-9223372036854775808 : Int) ≤ (((b.length : Int)) - ((i : Int))) - 1 by omega) (show (((b.length : Int)) - ((i : Int))) - 1 ≤ (9223372036854775807 : Int) by omega) ?_
  refine ops_run3 (l' := [(0, v), (2, .slice none 0 0), (3, .int .i64 0), (4, .int .i64 ((i : Int))), (5, .int .i64 ((n : Int))), (58, .bool (decide (((n : Int) : Int) ≥ ((((b.length : Int)) - ((i : Int))) - 1 : Int))))]) (by kernel_rfl) ?_
  by_cases q8 : ((n : Int) : Int) ≥ ((((b.length : Int)) - ((i : Int))) - 1 : Int)
  rw [show (decide (((n : Int) : Int) ≥ ((((b.length : Int)) - ((i : Int))) - 1 : Int))) = true from decide_eq_true q8]
  refine ops_run9 (l' := [(0, v), (2, .slice none 0 0), (3, .int .i64 0), (4, .int .i64 ((i : Int))), (5, .int .i64 ((n : Int))), (67, .bool true)]) (by kernel_rfl) ?_
  refine ops_nil (nx_seq ?_)
  refine at_ift (by kernel_rfl) ?_
  refine at_seq (at_region ?_)
  refine ops_run2 (l' := [(0, v), (2, .slice none 0 0), (3, .int .i64 0), (4, .int .i64 ((i : Int))), (5, .int .i64 ((n : Int)))]) (by kernel_rfl) ?_
  refine ops_nil (nx_seq ?_)
  refine at_ret (rs := [.tmp 2, .tmp 3]) (vs := [.slice none 0 0, .int .i64 0]) rfl (by kernel_rfl) ?_
  refine ⟨_, rfl, (((Chg.refl [] w).step0 c1 (by omega)).step0 h8 (by omega)), .inr ⟨fun x r h => ?_, rfl⟩⟩
  obtain ⟨i0, a, _, _⟩ := cutAt_of h
  have g1 := a.h1; have g8 := a.h8; have g2 := a.h0; have g3 := a.hl; have g4 := a.hm; have g5 := a.hk; have g6 := a.hn; have g7 := a.hc
  have e8 := CutAt.first hf hc1 a
  subst e8
  first
    | omega
    | (have g9 := a.hd k (by omega); omega)
    | (rw [show i0 = k by omega, ← hnv] at g6; rw [← g6] at g5 g3 g4; omega)
  rw [show (decide (((n : Int) : Int) ≥ ((((b.length : Int)) - ((i : Int))) - 1 : Int))) = false from decide_eq_false q8]
  refine ops_run2 (l' := [(0, v), (2, .slice none 0 0), (3, .int .i64 0), (4, .int .i64 ((i : Int))), (5, .int .i64 ((n : Int))), (58, .bool false), (59, v), (60, .int .i64 ((i : Int)))]) (by kernel_rfl) ?_
  refine ops_add (a := (i : Int)) (b := 1) (kd := .i64) (by kernel_rfl) (by kernel_rfl) (by kernel_rfl) (by kernel_rfl) (show (-9223372036854775808 : Int) ≤ ((i : Int)) + 1 by omega) (show ((i : Int)) + 1 ≤ (9223372036854775807 : Int) by omega) ?_
  refine ops_run1 (l' := [(0, v), (2, .slice none 0 0), (3, .int .i64 0), (4, .int .i64 ((i : Int))), (5, .int .i64 ((n : Int))), (58, .bool false), (59, v), (61, .int .i64 (((i : Int)) + 1)), (62, .int .i64 ((n : Int)))]) (by kernel_rfl) ?_
  refine ops_add (a := ((i : Int)) + 1) (b := (n : Int)) (kd := .i64) (by kernel_rfl) (by kernel_rfl) (by kernel_rfl) (by kernel_rfl) (show (-9223372036854775808 : Int) ≤ (((i : Int)) + 1) + ((n : Int)) by omega) (show (((i : Int)) + 1) + ((n : Int)) ≤ (9223372036854775807 : Int) by omega) ?_
  refine ops_idx (e := 5) (i := (((i : Int)) + 1) + ((n : Int))) (kd := .i64) (((i) + 1) + (n)) (by kernel_rfl) (by kernel_rfl) (by kernel_rfl) (by kernel_rfl) (by kernel_rfl) (by kernel_rfl) h15 (by omega) (by first | omega | (simp only [List.length_append, List.length_cons, List.length_nil, List.length_take, List.length_drop, List.length_map]; omega)) (fun a3 h16 => ?_)
  have h17 := cell_bAt (l := b) (j := ((i) + 1) + (n)) h16 (by first | omega | (simp only [List.length_append, List.length_cons, List.length_nil, List.length_take, List.length_drop, List.length_map]; omega))
  have r3 := bAt_range b (((i) + 1) + (n))
  refine ops_load (by kernel_rfl) (by kernel_rfl) (by kernel_rfl) (by kernel_rfl) h17 ?_
  refine ops_run2 (l' := [(0, v), (2, .slice none 0 0), (3, .int .i64 0), (4, .int .i64 ((i : Int))), (5, .int .i64 ((n : Int))), (67, .bool (!(decide ((bAt b (((i) + 1) + (n)) : Int) = (44 : Int)))))]) (by kernel_rfl) ?_
  refine ops_nil (nx_seq ?_)
  refine at_ifn ((bAt b (((i) + 1) + (n)) : Int) = (44 : Int)) (by kernel_rfl) (fun q9 => ?_) (fun q9 => ?_)
  refine at_seq (at_region ?_)
  refine ops_run2 (l' := [(0, v), (2, .slice none 0 0), (3, .int .i64 0), (4, .int .i64 ((i : Int))), (5, .int .i64 ((n : Int)))]) (by kernel_rfl) ?_
  refine ops_nil (nx_seq ?_)
  refine at_ret (rs := [.tmp 2, .tmp 3]) (vs := [.slice none 0 0, .int .i64 0]) rfl (by kernel_rfl) ?_
  refine ⟨_, rfl, (((Chg.refl [] w).step0 c1 (by omega)).step0 h8 (by omega)), .inr ⟨fun x r h => ?_, rfl⟩⟩
  obtain ⟨i0, a, _, _⟩ := cutAt_of h
  have g1 := a.h1; have g8 := a.h8; have g2 := a.h0; have g3 := a.hl; have g4 := a.hm; have g5 := a.hk; have g6 := a.hn; have g7 := a.hc
  have e8 := CutAt.first hf hc1 a
  subst e8
  first
    | omega
    | (have g9 := a.hd k (by omega); omega)
    | (rw [show i0 = k by omega, ← hnv] at g6; rw [← g6] at g5 g3 g4; omega)
  refine at_skip (nx_seq (at_seq (at_region ?_)))
  refine ops_run2 (l' := [(2, .slice none 0 0), (3, .int .i64 0), (4, .int .i64 ((i : Int))), (5, .int .i64 ((n : Int))), (68, v), (69, .int .i64 ((i : Int)))]) (by kernel_rfl) ?_
  refine ops_add (a := (i : Int)) (b := 1) (kd := .i64) (by kernel_rfl) (by kernel_rfl) (by kernel_rfl) (by kernel_rfl) (show (-9223372036854775808 : Int) ≤ ((i : Int)) + 1 by omega) (show ((i : Int)) + 1 ≤ (9223372036854775807 : Int) by omega) ?_
  refine ops_run1 (l' := [(2, .slice none 0 0), (3, .int .i64 0), (4, .int .i64 ((i : Int))), (5, .int .i64 ((n : Int))), (68, v), (70, .int .i64 (((i : Int)) + 1)), (71, .int .i64 ((i : Int)))]) (by kernel_rfl) ?_
  refine ops_add (a := (i : Int)) (b := 1) (kd := .i64) (by kernel_rfl) (by kernel_rfl) (by kernel_rfl) (by kernel_rfl) (show (-9223372036854775808 : Int) ≤ ((i : Int)) + 1 by omega) (show ((i : Int)) + 1 ≤ (9223372036854775807 : Int) by omega) ?_
  refine ops_run1 (l' := [(2, .slice none 0 0), (3, .int .i64 0), (4, .int .i64 ((i : Int))), (5, .int .i64 ((n : Int))), (68, v), (70, .int .i64 (((i : Int)) + 1)), (72, .int .i64 (((i : Int)) + 1)), (73, .int .i64 ((n : Int)))]) (by kernel_rfl) ?_
  refine ops_add (a := ((i : Int)) + 1) (b := (n : Int)) (kd := .i64) (by kernel_rfl) (by kernel_rfl) (by kernel_rfl) (by kernel_rfl) (show (-9223372036854775808 : Int) ≤ (((i : Int)) + 1) + ((n : Int)) by omega) (show (((i : Int)) + 1) + ((n : Int)) ≤ (9223372036854775807 : Int) by omega) ?_
  refine ops_part (e := 5) (i := ((i : Int)) + 1) (kd := .i64) (i' := (((i : Int)) + 1) + ((n : Int))) (kd' := .i64) ((i) + 1) (((i) + 1) + (n)) (by kernel_rfl) (by kernel_rfl) (by kernel_rfl) (by kernel_rfl) (by kernel_rfl) (by kernel_rfl) (by kernel_rfl) h15 (by first | omega | (simp only [List.length_append, List.length_cons, List.length_nil, List.length_take, List.length_drop, List.length_map]; omega)) (by first | omega | (simp only [List.length_append, List.length_cons, List.length_nil, List.length_take, List.length_drop, List.length_map]; omega)) (by first | omega | (simp only [List.length_append, List.length_cons, List.length_nil, List.length_take, List.length_drop, List.length_map]; omega)) (by first | omega | (simp only [List.length_append, List.length_cons, List.length_nil, List.length_take, List.length_drop, List.length_map]; omega)) (fun v3 h18 => ?_)
  replace h18 := bs_part h18 (by omega)
  refine ops_run2 (l' := [(2, .slice none 0 0), (3, .int .i64 0), (75, v3), (76, .int .i64 ((i : Int))), (77, .int .i64 ((n : Int)))]) (by kernel_rfl) ?_
  refine ops_add (a := (i : Int)) (b := (n : Int)) (kd := .i64) (by kernel_rfl) (by kernel_rfl) (by kernel_rfl) (by kernel_rfl) (show (-9223372036854775808 : Int) ≤ ((i : Int)) + ((n : Int)) by omega) (show ((i : Int)) + ((n : Int)) ≤ (9223372036854775807 : Int) by omega) ?_
  refine ops_add (a := ((i : Int)) + ((n : Int))) (b := 2) (kd := .i64) (by kernel_rfl) (by kernel_rfl) (by kernel_rfl) (by kernel_rfl) (show (-9223372036854775808 : Int) ≤ (((i : Int)) + ((n : Int))) + 2 by omega) (show (((i : Int)) + ((n : Int))) + 2 ≤ (9223372036854775807 : Int) by omega) ?_
  refine ops_run2 (l' := [(2, v3), (3, .int .i64 ((((i : Int)) + ((n : Int))) + 2))]) (by kernel_rfl) ?_
  refine ops_nil (nx_seq ?_)
  refine at_ret (rs := [.tmp 2, .tmp 3]) (vs := [v3, .int .i64 ((((i : Int)) + ((n : Int))) + 2)]) rfl (by kernel_rfl) ?_
  have e9 : k = i := by omega
  subst e9
  have hca : CutAt b k n := ⟨by omega, by omega, by omega, hd, hc1, fun _ => by omega, hnv.symm, by omega, by omega⟩
  have hcr := hca.cut
  rw [show k + 1 + n - (k + 1) = n by omega] at h18
  exact ⟨_, rfl, (((Chg.refl [] w).step0 c1 (by omega)).step0 h8 (by omega)), .inl ⟨k + n + 2, _, _, rfl, by omega, by omega, hcr, h18⟩⟩
  rw [show (decide ((bAt b 0 : Int) = (48 : Int))) = false from decide_eq_false q2]
  refine ops_run4 (l' := [(0, v), (2, .slice none 0 0), (3, .int .i64 0), (4, .int .i64 ((i : Int))), (25, .bool false)]) (by kernel_rfl) ?_
  refine ops_nil (nx_seq ?_)
  refine at_iff (by kernel_rfl) ?_
  refine at_skip (nx_seq (at_seq (at_region ?_)))
  refine ops_run1 (l' := [(0, v), (2, .slice none 0 0), (3, .int .i64 0), (4, .int .i64 ((i : Int))), (5, .int .i64 0)]) (by kernel_rfl) ?_
  refine ops_nil (nx_seq (at_seq (at_seq (at_region ?_))))
  refine ops_run2 (l' := [(0, v), (2, .slice none 0 0), (3, .int .i64 0), (4, .int .i64 ((i : Int))), (5, .int .i64 0), (26, v), (27, .int .i64 ((i : Int)))]) (by kernel_rfl) ?_
  refine ops_upto (e := 5) (i' := (i : Int)) (kd' := .i64) i (by kernel_rfl) (by kernel_rfl) (by kernel_rfl) (by kernel_rfl) (by kernel_rfl) (by kernel_rfl) h3 (by first | omega | (simp only [List.length_append, List.length_cons, List.length_nil, List.length_take, List.length_drop, List.length_map]; omega)) (by first | omega | (simp only [List.length_append, List.length_cons, List.length_nil, List.length_take, List.length_drop, List.length_map]; omega)) (fun v4 h20 => ?_)
  replace h20 := bs_upto h20 (by omega)
  refine ops_len (e := 5) (by kernel_rfl) (by kernel_rfl) (by kernel_rfl) (by kernel_rfl) h20 ?_
  refine ops_run1 (l' := [(0, v), (2, .slice none 0 0), (3, .int .i64 0), (4, .int .i64 ((i : Int))), (5, .int .i64 0), (28, v4), (29, .int .i64 (((((b.take i).length) : Nat) : Int))), (30, .int .i64 0)]) (by kernel_rfl) ?_
  refine ops_nil (nx_seq (at_block ?_))
  refine at_loop (X := Nat × Nat) (fun x_ => [(0, v), (2, .slice none 0 0), (3, .int .i64 0), (4, .int .i64 ((i : Int))), (5, .int .i64 ((x_.2 : Int))), (28, v4), (29, .int .i64 (((((b.take i).length) : Nat) : Int))), (30, .int .i64 ((x_.1 : Int)))]) (fun x_ W2 => Chg [] (w1.heap.size) w1 W2 ∧ (x_.1 ≤ i) ∧ (x_.2 = valN (b.take x_.1)) ∧ (∀ j, j < x_.1 → 48 ≤ bAt b j ∧ bAt b j ≤ 57)) (fun x_ => i - x_.1) (0, 0) (proj_sub [0, 2, 3, 4, 5, 28, 29, 30] (by kernel_rfl)) ⟨(Chg.refl [] w1), (show 0 ≤ i by first | omega | (simp only [List.length_append, List.length_cons, List.length_nil, List.length_take, List.length_drop, List.length_map]; omega)), (show 0 = valN (b.take 0) by rfl), (show ∀ j, j < 0 → 48 ≤ bAt b j ∧ bAt b j ≤ 57 by intro j hj; omega)⟩ ?_
  rintro ⟨k, n⟩ w3 ⟨h22, h23, h24, h25⟩
  replace h22 : Chg [] (w1.heap.size) w1 w3 := h22
  replace h23 : (k ≤ i) := h23
  replace h24 : (n = valN (b.take k)) := h24
  replace h25 : (∀ j, j < k → 48 ≤ bAt b j ∧ bAt b j ≤ 57) := h25
  have z3 := h22.size
  have hnv := h24
  have hd := h25
  have hnb := valN_small hd (by omega)
  refine at_seq (at_region ?_)
  refine ops_run1 (l' := [(0, v), (2, .slice none 0 0), (3, .int .i64 0), (4, .int .i64 ((i : Int))), (5, .int .i64 ((n : Int))), (28, v4), (29, .int .i64 (((((b.take i).length) : Nat) : Int))), (30, .int .i64 ((k : Int))), (31, .bool (decide (((k : Int) : Int) < (((((b.take i).length) : Nat) : Int) : Int))))]) (by kernel_rfl) ?_
  refine ops_nil (nx_seq (at_seq ?_))
  refine at_ifp (((k : Int) : Int) < (((((b.take i).length) : Nat) : Int) : Int)) (by kernel_rfl) (fun q10 => ?_) (fun q10 => ?_)
  refine at_skip (nx_seq (at_seq (at_block (at_seq (at_region ?_)))))
  have h26 := h20.keep0 h22 (by omega)
  refine ops_idx (e := 5) (i := (k : Int)) (kd := .i64) k (by kernel_rfl) (by kernel_rfl) (by kernel_rfl) (by kernel_rfl) (by kernel_rfl) (by kernel_rfl) h26 (by omega) (by first | omega | (simp only [List.length_append, List.length_cons, List.length_nil, List.length_take, List.length_drop, List.length_map]; omega)) (fun a4 h27 => ?_)
  have h28 := cell_bAt (l := b.take i) (j := k) h27 (by first | omega | (simp only [List.length_append, List.length_cons, List.length_nil, List.length_take, List.length_drop, List.length_map]; omega))
  have r4 := bAt_range (b.take i) k
  refine ops_load (by kernel_rfl) (by kernel_rfl) (by kernel_rfl) (by kernel_rfl) h28 ?_
  have hbt : bAt (b.take i) k = bAt b k := bAt_take (by omega)
  refine ops_run1 (l' := [(0, v), (2, .slice none 0 0), (3, .int .i64 0), (4, .int .i64 ((i : Int))), (5, .int .i64 ((n : Int))), (7, .int .u8 (bAt (b.take i) k)), (28, v4), (29, .int .i64 (((((b.take i).length) : Nat) : Int))), (30, .int .i64 ((k : Int)))]) (by kernel_rfl) ?_
  refine ops_nil (nx_seq (at_seq (at_seq (at_region ?_))))
  refine ops_run3 (l' := [(0, v), (2, .slice none 0 0), (3, .int .i64 0), (4, .int .i64 ((i : Int))), (5, .int .i64 ((n : Int))), (7, .int .u8 (bAt (b.take i) k)), (28, v4), (29, .int .i64 (((((b.take i).length) : Nat) : Int))), (30, .int .i64 ((k : Int))), (36, .bool (decide ((bAt (b.take i) k : Int) < (48 : Int))))]) (by kernel_rfl) ?_
  by_cases q11 : (bAt (b.take i) k : Int) < (48 : Int)
  rw [show (decide ((bAt (b.take i) k : Int) < (48 : Int))) = true from decide_eq_true q11]
  refine ops_run3 (l' := [(0, v), (2, .slice none 0 0), (3, .int .i64 0), (4, .int .i64 ((i : Int))), (5, .int .i64 ((n : Int))), (7, .int .u8 (bAt (b.take i) k)), (28, v4), (29, .int .i64 (((((b.take i).length) : Nat) : Int))), (30, .int .i64 ((k : Int))), (39, .bool true)]) (by kernel_rfl) ?_
  refine ops_nil (nx_seq ?_)
  refine at_ift (by kernel_rfl) ?_
  refine at_seq (at_region ?_)
  refine ops_run2 (l' := [(0, v), (2, .slice none 0 0), (3, .int .i64 0), (4, .int .i64 ((i : Int))), (5, .int .i64 ((n : Int))), (7, .int .u8 (bAt (b.take i) k)), (28, v4), (29, .int .i64 (((((b.take i).length) : Nat) : Int))), (30, .int .i64 ((k : Int)))]) (by kernel_rfl) ?_
  refine ops_nil (nx_seq ?_)
  refine at_ret (rs := [.tmp 2, .tmp 3]) (vs := [.slice none 0 0, .int .i64 0]) rfl (by kernel_rfl) ?_
  refine ⟨_, rfl, (((Chg.refl [] w).step0 c1 (by omega)).step0 h22 (by omega)), .inr ⟨fun x r h => ?_, rfl⟩⟩
  obtain ⟨i0, a, _, _⟩ := cutAt_of h
  have g1 := a.h1; have g8 := a.h8; have g2 := a.h0; have g3 := a.hl; have g4 := a.hm; have g5 := a.hk; have g6 := a.hn; have g7 := a.hc
  have e8 := CutAt.first hf hc1 a
  subst e8
  first
    | omega
    | (have g9 := a.hd k (by omega); omega)
    | (rw [show i0 = k by omega, ← hnv] at g6; rw [← g6] at g5 g3 g4; omega)
  rw [show (decide ((bAt (b.take i) k : Int) < (48 : Int))) = false from decide_eq_false q11]
  refine ops_run3 (l' := [(0, v), (2, .slice none 0 0), (3, .int .i64 0), (4, .int .i64 ((i : Int))), (5, .int .i64 ((n : Int))), (7, .int .u8 (bAt (b.take i) k)), (28, v4), (29, .int .i64 (((((b.take i).length) : Nat) : Int))), (30, .int .i64 ((k : Int))), (39, .bool (decide ((bAt (b.take i) k : Int) > (57 : Int))))]) (by kernel_rfl) ?_
  refine ops_nil (nx_seq ?_)
  refine at_ifp ((bAt (b.take i) k : Int) > (57 : Int)) (by kernel_rfl) (fun q12 => ?_) (fun q12 => ?_)
  refine at_seq (at_region ?_)
  refine ops_run2 (l' := [(0, v), (2, .slice none 0 0), (3, .int .i64 0), (4, .int .i64 ((i : Int))), (5, .int .i64 ((n : Int))), (7, .int .u8 (bAt (b.take i) k)), (28, v4), (29, .int .i64 (((((b.take i).length) : Nat) : Int))), (30, .int .i64 ((k : Int)))]) (by kernel_rfl) ?_
  refine ops_nil (nx_seq ?_)
  refine at_ret (rs := [.tmp 2, .tmp 3]) (vs := [.slice none 0 0, .int .i64 0]) rfl (by kernel_rfl) ?_
  refine ⟨_, rfl, (((Chg.refl [] w).step0 c1 (by omega)).step0 h22 (by omega)), .inr ⟨fun x r h => ?_, rfl⟩⟩
  obtain ⟨i0, a, _, _⟩ := cutAt_of h
  have g1 := a.h1; have g8 := a.h8; have g2 := a.h0; have g3 := a.hl; have g4 := a.hm; have g5 := a.hk; have g6 := a.hn; have g7 := a.hc
  have e8 := CutAt.first hf hc1 a
  subst e8
  first
    | omega
    | (have g9 := a.hd k (by omega); omega)
    | (rw [show i0 = k by omega, ← hnv] at g6; rw [← g6] at g5 g3 g4; omega)
  refine at_skip (nx_seq (at_region ?_))
  refine ops_run1 (l' := [(0, v), (2, .slice none 0 0), (3, .int .i64 0), (4, .int .i64 ((i : Int))), (5, .int .i64 ((n : Int))), (7, .int .u8 (bAt (b.take i) k)), (28, v4), (29, .int .i64 (((((b.take i).length) : Nat) : Int))), (30, .int .i64 ((k : Int))), (40, .int .i64 ((n : Int)))]) (by kernel_rfl) ?_
  refine ops_mul (a := 10) (b := (n : Int)) (kd := .i64) (by kernel_rfl) (by kernel_rfl) (by kernel_rfl) (by kernel_rfl) (show (-9223372036854775808 : Int) ≤ 10 * ((n : Int)) by omega) (show 10 * ((n : Int)) ≤ (9223372036854775807 : Int) by omega) ?_
  refine ops_run1 (l' := [(0, v), (2, .slice none 0 0), (3, .int .i64 0), (4, .int .i64 ((i : Int))), (5, .int .i64 ((n : Int))), (28, v4), (29, .int .i64 (((((b.take i).length) : Nat) : Int))), (30, .int .i64 ((k : Int))), (41, .int .i64 (10 * ((n : Int)))), (42, .int .u8 (bAt (b.take i) k))]) (by kernel_rfl) ?_
  refine ops_sub_ (a := bAt (b.take i) k) (b := 48) (kd := .u8) (by kernel_rfl) (by kernel_rfl) (by kernel_rfl) (by kernel_rfl) (show (0 : Int) ≤ (bAt (b.take i) k) - 48 by omega) (show (bAt (b.take i) k) - 48 ≤ (255 : Int) by omega) ?_
  refine ops_conv (a := (bAt (b.take i) k) - 48) (kd := .u8) (kd' := .i64) (by kernel_rfl) (by kernel_rfl) (by kernel_rfl) (by kernel_rfl) (by kernel_rfl) (show (-9223372036854775808 : Int) ≤ ((bAt (b.take i) k) - 48) by omega) (show ((bAt (b.take i) k) - 48) ≤ (9223372036854775807 : Int) by omega) ?_
  refine ops_add (a := 10 * ((n : Int))) (b := (bAt (b.take i) k) - 48) (kd := .i64) (by kernel_rfl) (by kernel_rfl) (by kernel_rfl) (by kernel_rfl) (show (-9223372036854775808 : Int) ≤ (10 * ((n : Int))) + ((bAt (b.take i) k) - 48) by omega) (show (10 * ((n : Int))) + ((bAt (b.take i) k) - 48) ≤ (9223372036854775807 : Int) by omega) ?_
  refine ops_run1 (l' := [(0, v), (2, .slice none 0 0), (3, .int .i64 0), (4, .int .i64 ((i : Int))), (5, .int .i64 ((10 * ((n : Int))) + ((bAt (b.take i) k) - 48))), (28, v4), (29, .int .i64 (((((b.take i).length) : Nat) : Int))), (30, .int .i64 ((k : Int)))]) (by kernel_rfl) ?_
  refine ops_nil (nx_blk (nx_seq (at_region ?_)))
  refine ops_add (a := (k : Int)) (b := 1) (kd := .i64) (by kernel_rfl) (by kernel_rfl) (by kernel_rfl) (by kernel_rfl) (show (-9223372036854775808 : Int) ≤ ((k : Int)) + 1 by omega) (show ((k : Int)) + 1 ≤ (9223372036854775807 : Int) by omega) ?_
  refine ops_run1 (l' := [(0, v), (2, .slice none 0 0), (3, .int .i64 0), (4, .int .i64 ((i : Int))), (5, .int .i64 ((10 * ((n : Int))) + ((bAt (b.take i) k) - 48))), (28, v4), (29, .int .i64 (((((b.take i).length) : Nat) : Int))), (30, .int .i64 (((k : Int)) + 1))]) (by kernel_rfl) ?_
  refine ops_nil ?_
  have e3 : ((10 * ((n : Int))) + ((bAt (b.take i) k) - 48) : Int) = (((valN (b.take (k + 1))) : Nat) : Int) := by (have hv := valN_take (s := b) (i := k) (by omega) (by omega); omega)
  have e4 : (((k : Int)) + 1 : Int) = (((k + 1) : Nat) : Int) := by (have hv := valN_take (s := b) (i := k) (by omega) (by omega); omega)
  refine nx_round (k + 1, valN (b.take (k + 1))) (proj_subE (l1 := [(0, v), (2, .slice none 0 0), (3, .int .i64 0), (4, .int .i64 ((i : Int))), (5, .int .i64 ((10 * ((n : Int))) + ((bAt (b.take i) k) - 48))), (28, v4), (29, .int .i64 (((((b.take i).length) : Nat) : Int))), (30, .int .i64 (((k : Int)) + 1))]) (l2 := [(0, v), (2, .slice none 0 0), (3, .int .i64 0), (4, .int .i64 ((i : Int))), (5, .int .i64 ((((valN (b.take (k + 1))) : Nat) : Int))), (28, v4), (29, .int .i64 (((((b.take i).length) : Nat) : Int))), (30, .int .i64 ((((k + 1) : Nat) : Int)))]) (by kernel_rfl) (by simp only [e3]; simp only [e4]) (by kernel_rfl)) ⟨((Chg.refl [] w1).step0 h22 (by omega)), (show (k + 1) ≤ i by first | omega | (simp only [List.length_append, List.length_cons, List.length_nil, List.length_take, List.length_drop, List.length_map]; omega)), (show (valN (b.take (k + 1))) = valN (b.take (k + 1)) by rfl), (show ∀ j, j < (k + 1) → 48 ≤ bAt b j ∧ bAt b j ≤ 57 by exact fun j hj => if e : j = k then (by rw [e]; omega) else hd j (by omega))⟩ (show i - (k + 1) < i - k by omega)
  refine at_exit (ex_seq (ex_inv (ex_here (nx_seq (at_seq (at_seq (at_region ?_)))))))
  refine ops_run3 (l' := [(0, v), (2, .slice none 0 0), (3, .int .i64 0), (4, .int .i64 ((i : Int))), (5, .int .i64 ((n : Int))), (49, .bool (decide (((n : Int) : Int) > (1000000 : Int))))]) (by kernel_rfl) ?_
  by_cases q13 : ((n : Int) : Int) > (1000000 : Int)
  rw [show (decide (((n : Int) : Int) > (1000000 : Int))) = true from decide_eq_true q13]
  refine ops_run18 (l' := [(0, v), (2, .slice none 0 0), (3, .int .i64 0), (4, .int .i64 ((i : Int))), (5, .int .i64 ((n : Int))), (67, .bool true)]) (by kernel_rfl) ?_
  refine ops_nil (nx_seq ?_)
  refine at_ift (by kernel_rfl) ?_
  refine at_seq (at_region ?_)
  refine ops_run2 (l' := [(0, v), (2, .slice none 0 0), (3, .int .i64 0), (4, .int .i64 ((i : Int))), (5, .int .i64 ((n : Int)))]) (by kernel_rfl) ?_
  refine ops_nil (nx_seq ?_)
  refine at_ret (rs := [.tmp 2, .tmp 3]) (vs := [.slice none 0 0, .int .i64 0]) rfl (by kernel_rfl) ?_
  refine ⟨_, rfl, (((Chg.refl [] w).step0 c1 (by omega)).step0 h22 (by omega)), .inr ⟨fun x r h => ?_, rfl⟩⟩
  obtain ⟨i0, a, _, _⟩ := cutAt_of h
  have g1 := a.h1; have g8 := a.h8; have g2 := a.h0; have g3 := a.hl; have g4 := a.hm; have g5 := a.hk; have g6 := a.hn; have g7 := a.hc
  have e8 := CutAt.first hf hc1 a
  subst e8
  first
    | omega
    | (have g9 := a.hd k (by omega); omega)
    | (rw [show i0 = k by omega, ← hnv] at g6; rw [← g6] at g5 g3 g4; omega)
  rw [show (decide (((n : Int) : Int) > (1000000 : Int))) = false from decide_eq_false q13]
  refine ops_run2 (l' := [(0, v), (2, .slice none 0 0), (3, .int .i64 0), (4, .int .i64 ((i : Int))), (5, .int .i64 ((n : Int))), (49, .bool false), (50, .int .i64 ((n : Int))), (51, v)]) (by kernel_rfl) ?_
  have h29 := h3.keep0 h22 (by omega)
  refine ops_len (e := 5) (by kernel_rfl) (by kernel_rfl) (by kernel_rfl) (by kernel_rfl) h29 ?_
  refine ops_run1 (l' := [(0, v), (2, .slice none 0 0), (3, .int .i64 0), (4, .int .i64 ((i : Int))), (5, .int .i64 ((n : Int))), (49, .bool false), (50, .int .i64 ((n : Int))), (52, .int .i64 ((b.length : Int))), (53, .int .i64 ((i : Int)))]) (by kernel_rfl) ?_
  refine ops_sub_ (a := (b.length : Int)) (b := (i : Int)) (kd := .i64) (by kernel_rfl) (by kernel_rfl) (by kernel_rfl) (by kernel_rfl) (show (-9223372036854775808 : Int) ≤ ((b.length : Int)) - ((i : Int)) by omega) (show ((b.length : Int)) - ((i : Int)) ≤ (9223372036854775807 : Int) by omega) ?_
  refine ops_sub_ (a := ((b.length : Int)) - ((i : Int))) (b := 1) (kd := .i64) (by kernel_rfl) (by kernel_rfl) (by kernel_rfl) (by kernel_rfl) (show (-9223372036854775808 : Int) ≤ (((b.length : Int)) - ((i : Int))) - 1 by omega) (show (((b.length : Int)) - ((i : Int))) - 1 ≤ (9223372036854775807 : Int) by omega) ?_
  refine ops_run3 (l' := [(0, v), (2, .slice none 0 0), (3, .int .i64 0), (4, .int .i64 ((i : Int))), (5, .int .i64 ((n : Int))), (58, .bool (decide (((n : Int) : Int) ≥ ((((b.length : Int)) - ((i : Int))) - 1 : Int))))]) (by kernel_rfl) ?_
  by_cases q14 : ((n : Int) : Int) ≥ ((((b.length : Int)) - ((i : Int))) - 1 : Int)
  rw [show (decide (((n : Int) : Int) ≥ ((((b.length : Int)) - ((i : Int))) - 1 : Int))) = true from decide_eq_true q14]
  refine ops_run9 (l' := [(0, v), (2, .slice none 0 0), (3, .int .i64 0), (4, .int .i64 ((i : Int))), (5, .int .i64 ((n : Int))), (67, .bool true)]) (by kernel_rfl) ?_
  refine ops_nil (nx_seq ?_)
  refine at_ift (by kernel_rfl) ?_
  refine at_seq (at_region ?_)
  refine ops_run2 (l' := [(0, v), (2, .slice none 0 0), (3, .int .i64 0), (4, .int .i64 ((i : Int))), (5, .int .i64 ((n : Int)))]) (by kernel_rfl) ?_
  refine ops_nil (nx_seq ?_)
  refine at_ret (rs := [.tmp 2, .tmp 3]) (vs := [.slice none 0 0, .int .i64 0]) rfl (by kernel_rfl) ?_
  refine ⟨_, rfl, (((Chg.refl [] w).step0 c1 (by omega)).step0 h22 (by omega)), .inr ⟨fun x r h => ?_, rfl⟩⟩
  obtain ⟨i0, a, _, _⟩ := cutAt_of h
  have g1 := a.h1; have g8 := a.h8; have g2 := a.h0; have g3 := a.hl; have g4 := a.hm; have g5 := a.hk; have g6 := a.hn; have g7 := a.hc
  have e8 := CutAt.first hf hc1 a
  subst e8
  first
    | omega
    | (have g9 := a.hd k (by omega); omega)
    | (rw [show i0 = k by omega, ← hnv] at g6; rw [← g6] at g5 g3 g4; omega)
  rw [show (decide (((n : Int) : Int) ≥ ((((b.length : Int)) - ((i : Int))) - 1 : Int))) = false from decide_eq_false q14]
  refine ops_run2 (l' := [(0, v), (2, .slice none 0 0), (3, .int .i64 0), (4, .int .i64 ((i : Int))), (5, .int .i64 ((n : Int))), (58, .bool false), (59, v), (60, .int .i64 ((i : Int)))]) (by kernel_rfl) ?_
  refine ops_add (a := (i : Int)) (b := 1) (kd := .i64) (by kernel_rfl) (by kernel_rfl) (by kernel_rfl) (by kernel_rfl) (show (-9223372036854775808 : Int) ≤ ((i : Int)) + 1 by omega) (show ((i : Int)) + 1 ≤ (9223372036854775807 : Int) by omega) ?_
  refine ops_run1 (l' := [(0, v), (2, .slice none 0 0), (3, .int .i64 0), (4, .int .i64 ((i : Int))), (5, .int .i64 ((n : Int))), (58, .bool false), (59, v), (61, .int .i64 (((i : Int)) + 1)), (62, .int .i64 ((n : Int)))]) (by kernel_rfl) ?_
  refine ops_add (a := ((i : Int)) + 1) (b := (n : Int)) (kd := .i64) (by kernel_rfl) (by kernel_rfl) (by kernel_rfl) (by kernel_rfl) (show (-9223372036854775808 : Int) ≤ (((i : Int)) + 1) + ((n : Int)) by omega) (show (((i : Int)) + 1) + ((n : Int)) ≤ (9223372036854775807 : Int) by omega) ?_
  refine ops_idx (e := 5) (i := (((i : Int)) + 1) + ((n : Int))) (kd := .i64) (((i) + 1) + (n)) (by kernel_rfl) (by kernel_rfl) (by kernel_rfl) (by kernel_rfl) (by kernel_rfl) (by kernel_rfl) h29 (by omega) (by first | omega | (simp only [List.length_append, List.length_cons, List.length_nil, List.length_take, List.length_drop, List.length_map]; omega)) (fun a5 h30 => ?_)
  have h31 := cell_bAt (l := b) (j := ((i) + 1) + (n)) h30 (by first | omega | (simp only [List.length_append, List.length_cons, List.length_nil, List.length_take, List.length_drop, List.length_map]; omega))
  have r5 := bAt_range b (((i) + 1) + (n))
  refine ops_load (by kernel_rfl) (by kernel_rfl) (by kernel_rfl) (by kernel_rfl) h31 ?_
  refine ops_run2 (l' := [(0, v), (2, .slice none 0 0), (3, .int .i64 0), (4, .int .i64 ((i : Int))), (5, .int .i64 ((n : Int))), (67, .bool (!(decide ((bAt b (((i) + 1) + (n)) : Int) = (44 : Int)))))]) (by kernel_rfl) ?_
  refine ops_nil (nx_seq ?_)
  refine at_ifn ((bAt b (((i) + 1) + (n)) : Int) = (44 : Int)) (by kernel_rfl) (fun q15 => ?_) (fun q15 => ?_)
  refine at_seq (at_region ?_)
  refine ops_run2 (l' := [(0, v), (2, .slice none 0 0), (3, .int .i64 0), (4, .int .i64 ((i : Int))), (5, .int .i64 ((n : Int)))]) (by kernel_rfl) ?_
  refine ops_nil (nx_seq ?_)
  refine at_ret (rs := [.tmp 2, .tmp 3]) (vs := [.slice none 0 0, .int .i64 0]) rfl (by kernel_rfl) ?_
  refine ⟨_, rfl, (((Chg.refl [] w).step0 c1 (by omega)).step0 h22 (by omega)), .inr ⟨fun x r h => ?_, rfl⟩⟩
  obtain ⟨i0, a, _, _⟩ := cutAt_of h
  have g1 := a.h1; have g8 := a.h8; have g2 := a.h0; have g3 := a.hl; have g4 := a.hm; have g5 := a.hk; have g6 := a.hn; have g7 := a.hc
  have e8 := CutAt.first hf hc1 a
  subst e8
  first
    | omega
    | (have g9 := a.hd k (by omega); omega)
    | (rw [show i0 = k by omega, ← hnv] at g6; rw [← g6] at g5 g3 g4; omega)
  refine at_skip (nx_seq (at_seq (at_region ?_)))
  refine ops_run2 (l' := [(2, .slice none 0 0), (3, .int .i64 0), (4, .int .i64 ((i : Int))), (5, .int .i64 ((n : Int))), (68, v), (69, .int .i64 ((i : Int)))]) (by kernel_rfl) ?_
  refine ops_add (a := (i : Int)) (b := 1) (kd := .i64) (by kernel_rfl) (by kernel_rfl) (by kernel_rfl) (by kernel_rfl) (show (-9223372036854775808 : Int) ≤ ((i : Int)) + 1 by omega) (show ((i : Int)) + 1 ≤ (9223372036854775807 : Int) by omega) ?_
  refine ops_run1 (l' := [(2, .slice none 0 0), (3, .int .i64 0), (4, .int .i64 ((i : Int))), (5, .int .i64 ((n : Int))), (68, v), (70, .int .i64 (((i : Int)) + 1)), (71, .int .i64 ((i : Int)))]) (by kernel_rfl) ?_
  refine ops_add (a := (i : Int)) (b := 1) (kd := .i64) (by kernel_rfl) (by kernel_rfl) (by kernel_rfl) (by kernel_rfl) (show (-9223372036854775808 : Int) ≤ ((i : Int)) + 1 by omega) (show ((i : Int)) + 1 ≤ (9223372036854775807 : Int) by omega) ?_
  refine ops_run1 (l' := [(2, .slice none 0 0), (3, .int .i64 0), (4, .int .i64 ((i : Int))), (5, .int .i64 ((n : Int))), (68, v), (70, .int .i64 (((i : Int)) + 1)), (72, .int .i64 (((i : Int)) + 1)), (73, .int .i64 ((n : Int)))]) (by kernel_rfl) ?_
  refine ops_add (a := ((i : Int)) + 1) (b := (n : Int)) (kd := .i64) (by kernel_rfl) (by kernel_rfl) (by kernel_rfl) (by kernel_rfl) (show (-9223372036854775808 : Int) ≤ (((i : Int)) + 1) + ((n : Int)) by omega) (show (((i : Int)) + 1) + ((n : Int)) ≤ (9223372036854775807 : Int) by omega) ?_
  refine ops_part (e := 5) (i := ((i : Int)) + 1) (kd := .i64) (i' := (((i : Int)) + 1) + ((n : Int))) (kd' := .i64) ((i) + 1) (((i) + 1) + (n)) (by kernel_rfl) (by kernel_rfl) (by kernel_rfl) (by kernel_rfl) (by kernel_rfl) (by kernel_rfl) (by kernel_rfl) h29 (by first | omega | (simp only [List.length_append, List.length_cons, List.length_nil, List.length_take, List.length_drop, List.length_map]; omega)) (by first | omega | (simp only [List.length_append, List.length_cons, List.length_nil, List.length_take, List.length_drop, List.length_map]; omega)) (by first | omega | (simp only [List.length_append, List.length_cons, List.length_nil, List.length_take, List.length_drop, List.length_map]; omega)) (by first | omega | (simp only [List.length_append, List.length_cons, List.length_nil, List.length_take, List.length_drop, List.length_map]; omega)) (fun v5 h32 => ?_)
  replace h32 := bs_part h32 (by omega)
  refine ops_run2 (l' := [(2, .slice none 0 0), (3, .int .i64 0), (75, v5), (76, .int .i64 ((i : Int))), (77, .int .i64 ((n : Int)))]) (by kernel_rfl) ?_
  refine ops_add (a := (i : Int)) (b := (n : Int)) (kd := .i64) (by kernel_rfl) (by kernel_rfl) (by kernel_rfl) (by kernel_rfl) (show (-9223372036854775808 : Int) ≤ ((i : Int)) + ((n : Int)) by omega) (show ((i : Int)) + ((n : Int)) ≤ (9223372036854775807 : Int) by omega) ?_
  refine ops_add (a := ((i : Int)) + ((n : Int))) (b := 2) (kd := .i64) (by kernel_rfl) (by kernel_rfl) (by kernel_rfl) (by kernel_rfl) (show (-9223372036854775808 : Int) ≤ (((i : Int)) + ((n : Int))) + 2 by omega) (show (((i : Int)) + ((n : Int))) + 2 ≤ (9223372036854775807 : Int) by omega) ?_
  refine ops_run2 (l' := [(2, v5), (3, .int .i64 ((((i : Int)) + ((n : Int))) + 2))]) (by kernel_rfl) ?_
  refine ops_nil (nx_seq ?_)
  refine at_ret (rs := [.tmp 2, .tmp 3]) (vs := [v5, .int .i64 ((((i : Int)) + ((n : Int))) + 2)]) rfl (by kernel_rfl) ?_
  have e9 : k = i := by omega
  subst e9
  have hca : CutAt b k n := ⟨by omega, by omega, by omega, hd, hc1, fun _ => by omega, hnv.symm, by omega, by omega⟩
  have hcr := hca.cut
  rw [show k + 1 + n - (k + 1) = n by omega] at h32
  exact ⟨_, rfl, (((Chg.refl [] w).step0 c1 (by omega)).step0 h22 (by omega)), .inl ⟨k + n + 2, _, _, rfl, by omega, by omega, hcr, h32⟩⟩
theorem take_ok (b : Bytes) {w : World} {lo hi : Nat} {v : Value} (hb : Bs w lo hi v b) (hs : b.length < 4611686018427387904) : Rt Tryd.prog 42 #[v] w fun u w' => Chg [] w.heap.size w w' ∧ ((∃ (x r : Bytes) (v1 v2 : Value), u = .tuple #[v1, v2, .bool true] ∧ CutR b x r ∧ OwnB w' w.heap.size v1 x ∧ Bs w' lo hi v2 r) ∨ ((∀ x r, ¬ CutR b x r) ∧ u = .tuple #[.slice none 0 0, v, .bool false])) := by
  have hhi := hb.hi_le
  refine enter (n := 72) (args := [v]) Tryd.func42 rfl rfl (Nat.le_of_ble_eq_true (by kernel_rfl)) ?_
  refine at_seq (at_region ?_)
  refine ops_run3 (l' := [(0, v), (2, .slice none 0 0), (3, .slice none 0 0), (4, .bool false)]) (by kernel_rfl) ?_
  refine ops_nil (nx_seq (at_seq (at_seq (at_region ?_))))
  refine ops_run1 (l' := [(0, v), (2, .slice none 0 0), (3, .slice none 0 0), (4, .bool false), (5, .int .i64 0)]) (by kernel_rfl) ?_
  refine ops_nil (nx_seq (at_block ?_))
  refine at_loop (X := Nat) (fun x_ => [(0, v), (2, .slice none 0 0), (3, .slice none 0 0), (4, .bool false), (5, .int .i64 ((x_ : Int)))]) (fun x_ W1 => Chg [] (w.heap.size) w W1 ∧ (x_ ≤ b.length) ∧ (x_ ≤ 9) ∧ (∀ j, j < x_ → bAt b j ≠ 58)) (fun x_ => 9 - x_) 0 (proj_sub [0, 2, 3, 4, 5] (by kernel_rfl)) ⟨(Chg.refl [] w), (show 0 ≤ b.length by first | omega | (simp only [List.length_append, List.length_cons, List.length_nil, List.length_take, List.length_drop, List.length_map]; omega)), (show 0 ≤ 9 by first | omega | (simp only [List.length_append, List.length_cons, List.length_nil, List.length_take, List.length_drop, List.length_map]; omega)), (show ∀ j, j < 0 → bAt b j ≠ 58 by intro j hj; omega)⟩ ?_
  rintro i w1 ⟨h1, h2, h3, h4⟩
  replace h1 : Chg [] (w.heap.size) w w1 := h1
  replace h2 : (i ≤ b.length) := h2
  replace h3 : (i ≤ 9) := h3
  replace h4 : (∀ j, j < i → bAt b j ≠ 58) := h4
  have z1 := h1.size
  have hf := h4
  refine at_seq (at_seq (at_region ?_))
  refine ops_run2 (l' := [(0, v), (2, .slice none 0 0), (3, .slice none 0 0), (4, .bool false), (5, .int .i64 ((i : Int))), (8, .int .i64 ((i : Int))), (9, v)]) (by kernel_rfl) ?_
  have h5 := hb.keep0 h1 (by omega)
  refine ops_len (e := 5) (by kernel_rfl) (by kernel_rfl) (by kernel_rfl) (by kernel_rfl) h5 ?_
  refine ops_run2 (l' := [(0, v), (2, .slice none 0 0), (3, .slice none 0 0), (4, .bool false), (5, .int .i64 ((i : Int))), (12, .bool (decide (((i : Int) : Int) < ((b.length : Int) : Int))))]) (by kernel_rfl) ?_
  by_cases q1 : ((i : Int) : Int) < ((b.length : Int) : Int)
  rw [show (decide (((i : Int) : Int) < ((b.length : Int) : Int))) = true from decide_eq_true q1]
  refine ops_run3 (l' := [(0, v), (2, .slice none 0 0), (3, .slice none 0 0), (4, .bool false), (5, .int .i64 ((i : Int))), (15, .bool (decide (((i : Int) : Int) < (9 : Int))))]) (by kernel_rfl) ?_
  refine ops_nil (nx_seq ?_)
  refine at_ifp (((i : Int) : Int) < (9 : Int)) (by kernel_rfl) (fun q2 => ?_) (fun q2 => ?_)
  refine at_skip (nx_seq (at_seq (at_block (at_seq (at_seq (at_region ?_))))))
  refine ops_run2 (l' := [(0, v), (2, .slice none 0 0), (3, .slice none 0 0), (4, .bool false), (5, .int .i64 ((i : Int))), (18, v), (19, .int .i64 ((i : Int)))]) (by kernel_rfl) ?_
  refine ops_idx (e := 5) (i := (i : Int)) (kd := .i64) i (by kernel_rfl) (by kernel_rfl) (by kernel_rfl) (by kernel_rfl) (by kernel_rfl) (by kernel_rfl) h5 (by omega) (by first | omega | (simp only [List.length_append, List.length_cons, List.length_nil, List.length_take, List.length_drop, List.length_map]; omega)) (fun a1 h6 => ?_)
  have h7 := cell_bAt (l := b) (j := i) h6 (by first | omega | (simp only [List.length_append, List.length_cons, List.length_nil, List.length_take, List.length_drop, List.length_map]; omega))
  have r1 := bAt_range b i
  refine ops_load (by kernel_rfl) (by kernel_rfl) (by kernel_rfl) (by kernel_rfl) h7 ?_
  refine ops_run1 (l' := [(0, v), (2, .slice none 0 0), (3, .slice none 0 0), (4, .bool false), (5, .int .i64 ((i : Int))), (22, .bool (!(decide ((bAt b i : Int) = (58 : Int)))))]) (by kernel_rfl) ?_
  refine ops_nil (nx_seq ?_)
  refine at_ifn ((bAt b i : Int) = (58 : Int)) (by kernel_rfl) (fun q3 => ?_) (fun q3 => ?_)
  refine at_exit (ex_seq (ex_here (nx_seq (at_region ?_))))
  refine ops_run1 (l' := [(0, v), (2, .slice none 0 0), (3, .slice none 0 0), (4, .bool false), (5, .int .i64 ((i : Int))), (16, .int .i64 ((i : Int)))]) (by kernel_rfl) ?_
  refine ops_add (a := (i : Int)) (b := 1) (kd := .i64) (by kernel_rfl) (by kernel_rfl) (by kernel_rfl) (by kernel_rfl) (show (-9223372036854775808 : Int) ≤ ((i : Int)) + 1 by omega) (show ((i : Int)) + 1 ≤ (9223372036854775807 : Int) by omega) ?_
  refine ops_run1 (l' := [(0, v), (2, .slice none 0 0), (3, .slice none 0 0), (4, .bool false), (5, .int .i64 (((i : Int)) + 1))]) (by kernel_rfl) ?_
  refine ops_nil ?_
  refine nx_round ((i) + 1) (proj_sub [0, 2, 3, 4, 5] (by kernel_rfl)) ⟨((Chg.refl [] w).step0 h1 (by omega)), (show ((i) + 1) ≤ b.length by first | omega | (simp only [List.length_append, List.length_cons, List.length_nil, List.length_take, List.length_drop, List.length_map]; omega)), (show ((i) + 1) ≤ 9 by first | omega | (simp only [List.length_append, List.length_cons, List.length_nil, List.length_take, List.length_drop, List.length_map]; omega)), (show ∀ j, j < ((i) + 1) → bAt b j ≠ 58 by exact fun j hj => if e : j = i then (by rw [e]; assumption) else hf j (by omega))⟩ (show 9 - ((i) + 1) < 9 - i by omega)
  have hc1 := q3
  refine at_skip (nx_seq (at_seq (at_region ?_)))
  refine ops_run2 (l' := [(0, v), (2, .slice none 0 0), (3, .slice none 0 0), (4, .bool false), (5, .int .i64 ((i : Int))), (24, v), (25, .int .i64 ((i : Int)))]) (by kernel_rfl) ?_
  refine ops_upto (e := 5) (i' := (i : Int)) (kd' := .i64) i (by kernel_rfl) (by kernel_rfl) (by kernel_rfl) (by kernel_rfl) (by kernel_rfl) (by kernel_rfl) h5 (by first | omega | (simp only [List.length_append, List.length_cons, List.length_nil, List.length_take, List.length_drop, List.length_map]; omega)) (by first | omega | (simp only [List.length_append, List.length_cons, List.length_nil, List.length_take, List.length_drop, List.length_map]; omega)) (fun v1 h8 => ?_)
  replace h8 := bs_upto h8 (by omega)
  refine ops_toS (b := b.take i) (by kernel_rfl) (by kernel_rfl) (by kernel_rfl) (by kernel_rfl) (by kernel_rfl) h8 ?_
  refine ops_callr (by kernel_rfl) (by kernel_rfl) (by kernel_rfl) (number_ok (b.take i) (by first | omega | (simp only [List.length_append, List.length_cons, List.length_nil, List.length_take, List.length_drop, List.length_map]; omega)) w1) ?_
  rintro _ w2 ⟨c1, n1, ok1, rfl, h10, h11, h12⟩
  have z2 := c1.size
  have h13 := h10
  refine ops_run5 (l' := [(0, v), (2, .slice none 0 0), (3, .slice none 0 0), (4, .bool false), (5, .int .i64 ((i : Int))), (6, .int .i64 n1), (7, .bool ok1)]) (by kernel_rfl) ?_
  refine ops_nil (nx_seq (at_seq (at_seq (at_region ?_))))
  refine ops_run3 (l' := [(0, v), (2, .slice none 0 0), (3, .slice none 0 0), (4, .bool false), (5, .int .i64 ((i : Int))), (6, .int .i64 n1), (33, .bool (!ok1))]) (by kernel_rfl) ?_
  cases q4 : ok1
  first | rw [q4] | skip
  have hbad := q4
  refine ops_run22 (l' := [(0, v), (2, .slice none 0 0), (3, .slice none 0 0), (4, .bool false), (5, .int .i64 ((i : Int))), (6, .int .i64 n1), (55, .bool true)]) (by kernel_rfl) ?_
  refine ops_nil (nx_seq ?_)
  refine at_ift (by kernel_rfl) ?_
  refine at_exit (ex_seq (ex_past rfl (ex_seq (ex_inv (ex_here (nx_seq (at_seq (at_region ?_))))))))
  refine ops_run4 (l' := [(2, .slice none 0 0), (3, v), (4, .bool false)]) (by kernel_rfl) ?_
  refine ops_nil (nx_seq ?_)
  refine at_ret (rs := [.tmp 2, .tmp 3, .tmp 4]) (vs := [.slice none 0 0, v, .bool false]) rfl (by kernel_rfl) ?_
  refine ⟨_, rfl, (((Chg.refl [] w).step0 h1 (by omega)).step0 c1 (by omega)), .inr ⟨fun x r h => ?_, rfl⟩⟩
  obtain ⟨i0, a, _, _⟩ := cutAt_of h
  have g1 := a.h1; have g8 := a.h8; have g2 := a.h0; have g3 := a.hl; have g4 := a.hm; have g5 := a.hk; have g6 := a.hn; have g7 := a.hc
  have e8 := CutAt.first hf hc1 a
  subst e8
  have hns2 : numS (b.take i0) ∧ valN (b.take i0) ≤ 9223372036854775807 := ⟨⟨fun e => by have := congrArg List.length e; rw [List.length_take, List.length_nil] at this; omega, AllD.take a.hd, fun e => by rw [bAt_take (by omega)] at e; rw [List.length_take]; have := g2 e; omega⟩, by omega⟩
  have g9 := h11.2 hns2
  have g10 := h12 g9
  first | (rw [g9] at hbad; cases hbad) | (rw [← show i0 + 1 + n1.toNat = i0 + 1 + x.length by omega] at g5; omega) | omega
  first | rw [q4] | skip
  have hns := h11.1 q4
  have hnv := h12 q4
  refine ops_run4 (l' := [(0, v), (2, .slice none 0 0), (3, .slice none 0 0), (4, .bool false), (5, .int .i64 ((i : Int))), (6, .int .i64 n1), (37, .bool (decide ((n1 : Int) > (1000000 : Int))))]) (by kernel_rfl) ?_
  by_cases q5 : (n1 : Int) > (1000000 : Int)
  rw [show (decide ((n1 : Int) > (1000000 : Int))) = true from decide_eq_true q5]
  refine ops_run18 (l' := [(0, v), (2, .slice none 0 0), (3, .slice none 0 0), (4, .bool false), (5, .int .i64 ((i : Int))), (6, .int .i64 n1), (55, .bool true)]) (by kernel_rfl) ?_
  refine ops_nil (nx_seq ?_)
  refine at_ift (by kernel_rfl) ?_
  refine at_exit (ex_seq (ex_past rfl (ex_seq (ex_inv (ex_here (nx_seq (at_seq (at_region ?_))))))))
  refine ops_run4 (l' := [(2, .slice none 0 0), (3, v), (4, .bool false)]) (by kernel_rfl) ?_
  refine ops_nil (nx_seq ?_)
  refine at_ret (rs := [.tmp 2, .tmp 3, .tmp 4]) (vs := [.slice none 0 0, v, .bool false]) rfl (by kernel_rfl) ?_
  refine ⟨_, rfl, (((Chg.refl [] w).step0 h1 (by omega)).step0 c1 (by omega)), .inr ⟨fun x r h => ?_, rfl⟩⟩
  obtain ⟨i0, a, _, _⟩ := cutAt_of h
  have g1 := a.h1; have g8 := a.h8; have g2 := a.h0; have g3 := a.hl; have g4 := a.hm; have g5 := a.hk; have g6 := a.hn; have g7 := a.hc
  have e8 := CutAt.first hf hc1 a
  subst e8
  have hns2 : numS (b.take i0) ∧ valN (b.take i0) ≤ 9223372036854775807 := ⟨⟨fun e => by have := congrArg List.length e; rw [List.length_take, List.length_nil] at this; omega, AllD.take a.hd, fun e => by rw [bAt_take (by omega)] at e; rw [List.length_take]; have := g2 e; omega⟩, by omega⟩
  have g9 := h11.2 hns2
  have g10 := h12 g9
  first | (rw [g9] at hbad; cases hbad) | (rw [← show i0 + 1 + n1.toNat = i0 + 1 + x.length by omega] at g5; omega) | omega
  rw [show (decide ((n1 : Int) > (1000000 : Int))) = false from decide_eq_false q5]
  refine ops_run2 (l' := [(0, v), (2, .slice none 0 0), (3, .slice none 0 0), (4, .bool false), (5, .int .i64 ((i : Int))), (6, .int .i64 n1), (37, .bool false), (38, .int .i64 n1), (39, v)]) (by kernel_rfl) ?_
  have h14 := h5.keep0 c1 (by omega)
  refine ops_len (e := 5) (by kernel_rfl) (by kernel_rfl) (by kernel_rfl) (by kernel_rfl) h14 ?_
  refine ops_run1 (l' := [(0, v), (2, .slice none 0 0), (3, .slice none 0 0), (4, .bool false), (5, .int .i64 ((i : Int))), (6, .int .i64 n1), (37, .bool false), (38, .int .i64 n1), (40, .int .i64 ((b.length : Int))), (41, .int .i64 ((i : Int)))]) (by kernel_rfl) ?_
  refine ops_sub_ (a := (b.length : Int)) (b := (i : Int)) (kd := .i64) (by kernel_rfl) (by kernel_rfl) (by kernel_rfl) (by kernel_rfl) (show (-9223372036854775808 : Int) ≤ ((b.length : Int)) - ((i : Int)) by omega) (show ((b.length : Int)) - ((i : Int)) ≤ (9223372036854775807 : Int) by omega) ?_
  refine ops_sub_ (a := ((b.length : Int)) - ((i : Int))) (b := 1) (kd := .i64) (by kernel_rfl) (by kernel_rfl) (by kernel_rfl) (by kernel_rfl) (show (-9223372036854775808 : Int) ≤ (((b.length : Int)) - ((i : Int))) - 1 by omega) (show (((b.length : Int)) - ((i : Int))) - 1 ≤ (9223372036854775807 : Int) by omega) ?_
  refine ops_run3 (l' := [(0, v), (2, .slice none 0 0), (3, .slice none 0 0), (4, .bool false), (5, .int .i64 ((i : Int))), (6, .int .i64 n1), (46, .bool (decide ((n1 : Int) ≥ ((((b.length : Int)) - ((i : Int))) - 1 : Int))))]) (by kernel_rfl) ?_
  by_cases q6 : (n1 : Int) ≥ ((((b.length : Int)) - ((i : Int))) - 1 : Int)
  rw [show (decide ((n1 : Int) ≥ ((((b.length : Int)) - ((i : Int))) - 1 : Int))) = true from decide_eq_true q6]
  refine ops_run9 (l' := [(0, v), (2, .slice none 0 0), (3, .slice none 0 0), (4, .bool false), (5, .int .i64 ((i : Int))), (6, .int .i64 n1), (55, .bool true)]) (by kernel_rfl) ?_
  refine ops_nil (nx_seq ?_)
  refine at_ift (by kernel_rfl) ?_
  refine at_exit (ex_seq (ex_past rfl (ex_seq (ex_inv (ex_here (nx_seq (at_seq (at_region ?_))))))))
  refine ops_run4 (l' := [(2, .slice none 0 0), (3, v), (4, .bool false)]) (by kernel_rfl) ?_
  refine ops_nil (nx_seq ?_)
  refine at_ret (rs := [.tmp 2, .tmp 3, .tmp 4]) (vs := [.slice none 0 0, v, .bool false]) rfl (by kernel_rfl) ?_
  refine ⟨_, rfl, (((Chg.refl [] w).step0 h1 (by omega)).step0 c1 (by omega)), .inr ⟨fun x r h => ?_, rfl⟩⟩
  obtain ⟨i0, a, _, _⟩ := cutAt_of h
  have g1 := a.h1; have g8 := a.h8; have g2 := a.h0; have g3 := a.hl; have g4 := a.hm; have g5 := a.hk; have g6 := a.hn; have g7 := a.hc
  have e8 := CutAt.first hf hc1 a
  subst e8
  have hns2 : numS (b.take i0) ∧ valN (b.take i0) ≤ 9223372036854775807 := ⟨⟨fun e => by have := congrArg List.length e; rw [List.length_take, List.length_nil] at this; omega, AllD.take a.hd, fun e => by rw [bAt_take (by omega)] at e; rw [List.length_take]; have := g2 e; omega⟩, by omega⟩
  have g9 := h11.2 hns2
  have g10 := h12 g9
  first | (rw [g9] at hbad; cases hbad) | (rw [← show i0 + 1 + n1.toNat = i0 + 1 + x.length by omega] at g5; omega) | omega
  rw [show (decide ((n1 : Int) ≥ ((((b.length : Int)) - ((i : Int))) - 1 : Int))) = false from decide_eq_false q6]
  refine ops_run2 (l' := [(0, v), (2, .slice none 0 0), (3, .slice none 0 0), (4, .bool false), (5, .int .i64 ((i : Int))), (6, .int .i64 n1), (46, .bool false), (47, v), (48, .int .i64 ((i : Int)))]) (by kernel_rfl) ?_
  refine ops_add (a := (i : Int)) (b := 1) (kd := .i64) (by kernel_rfl) (by kernel_rfl) (by kernel_rfl) (by kernel_rfl) (show (-9223372036854775808 : Int) ≤ ((i : Int)) + 1 by omega) (show ((i : Int)) + 1 ≤ (9223372036854775807 : Int) by omega) ?_
  refine ops_run1 (l' := [(0, v), (2, .slice none 0 0), (3, .slice none 0 0), (4, .bool false), (5, .int .i64 ((i : Int))), (6, .int .i64 n1), (46, .bool false), (47, v), (49, .int .i64 (((i : Int)) + 1)), (50, .int .i64 n1)]) (by kernel_rfl) ?_
  refine ops_add (a := ((i : Int)) + 1) (b := n1) (kd := .i64) (by kernel_rfl) (by kernel_rfl) (by kernel_rfl) (by kernel_rfl) (show (-9223372036854775808 : Int) ≤ (((i : Int)) + 1) + n1 by omega) (show (((i : Int)) + 1) + n1 ≤ (9223372036854775807 : Int) by omega) ?_
  refine ops_idx (e := 5) (i := (((i : Int)) + 1) + n1) (kd := .i64) (i + 1 + n1.toNat) (by kernel_rfl) (by kernel_rfl) (by kernel_rfl) (by kernel_rfl) (by kernel_rfl) (by kernel_rfl) h14 (by omega) (by first | omega | (simp only [List.length_append, List.length_cons, List.length_nil, List.length_take, List.length_drop, List.length_map]; omega)) (fun a2 h15 => ?_)
  have h16 := cell_bAt (l := b) (j := (i + 1 + n1.toNat)) h15 (by first | omega | (simp only [List.length_append, List.length_cons, List.length_nil, List.length_take, List.length_drop, List.length_map]; omega))
  have r2 := bAt_range b (i + 1 + n1.toNat)
  refine ops_load (by kernel_rfl) (by kernel_rfl) (by kernel_rfl) (by kernel_rfl) h16 ?_
  refine ops_run2 (l' := [(0, v), (2, .slice none 0 0), (3, .slice none 0 0), (4, .bool false), (5, .int .i64 ((i : Int))), (6, .int .i64 n1), (55, .bool (!(decide ((bAt b (i + 1 + n1.toNat) : Int) = (44 : Int)))))]) (by kernel_rfl) ?_
  refine ops_nil (nx_seq ?_)
  refine at_ifn ((bAt b (i + 1 + n1.toNat) : Int) = (44 : Int)) (by kernel_rfl) (fun q7 => ?_) (fun q7 => ?_)
  refine at_exit (ex_seq (ex_past rfl (ex_seq (ex_inv (ex_here (nx_seq (at_seq (at_region ?_))))))))
  refine ops_run4 (l' := [(2, .slice none 0 0), (3, v), (4, .bool false)]) (by kernel_rfl) ?_
  refine ops_nil (nx_seq ?_)
  refine at_ret (rs := [.tmp 2, .tmp 3, .tmp 4]) (vs := [.slice none 0 0, v, .bool false]) rfl (by kernel_rfl) ?_
  refine ⟨_, rfl, (((Chg.refl [] w).step0 h1 (by omega)).step0 c1 (by omega)), .inr ⟨fun x r h => ?_, rfl⟩⟩
  obtain ⟨i0, a, _, _⟩ := cutAt_of h
  have g1 := a.h1; have g8 := a.h8; have g2 := a.h0; have g3 := a.hl; have g4 := a.hm; have g5 := a.hk; have g6 := a.hn; have g7 := a.hc
  have e8 := CutAt.first hf hc1 a
  subst e8
  have hns2 : numS (b.take i0) ∧ valN (b.take i0) ≤ 9223372036854775807 := ⟨⟨fun e => by have := congrArg List.length e; rw [List.length_take, List.length_nil] at this; omega, AllD.take a.hd, fun e => by rw [bAt_take (by omega)] at e; rw [List.length_take]; have := g2 e; omega⟩, by omega⟩
  have g9 := h11.2 hns2
  have g10 := h12 g9
  first | (rw [g9] at hbad; cases hbad) | (rw [← show i0 + 1 + n1.toNat = i0 + 1 + x.length by omega] at g5; omega) | omega
  refine at_skip (nx_seq (at_seq ?_))
  refine at_draw (m := 18) (listed := (bm 18 0)) (fun W => True) (by kernel_rfl) (by kernel_rfl) (by kernel_rfl) (fun w3 c2 z3 _ _ => ?_)
  have z4 := c2.size
  refine ⟨trivial, ?_⟩
  refine any_takes [0, 1, 3, 5, 9, 10, 12] (fuel' := 11) (listed' := (bm 18 5675)) (l' := [(0, v), (2, .slice none 0 0), (3, .slice none 0 0), (4, .bool false), (5, .int .i64 ((i : Int))), (56, v), (57, .int .i64 ((i : Int))), (59, .int .i64 ((i : Int))), (61, .int .i64 n1), (65, v), (66, .int .i64 ((i : Int))), (68, .int .i64 n1)]) panK_FB (by kernel_rfl) (by kernel_rfl) (by kernel_rfl) ?_
  refine any_3 2 (bm 18 5679) 4 (bm 18 5691) 11 (bm 18 7723) (by kernel_rfl) rfl (by kernel_rfl) rfl (by kernel_rfl) rfl (by kernel_rfl) ?_ ?_ ?_
  refine ops_add (a := (i : Int)) (b := 1) (kd := .i64) (by kernel_rfl) (by kernel_rfl) (by kernel_rfl) (by kernel_rfl) (show (-9223372036854775808 : Int) ≤ ((i : Int)) + 1 by omega) (show ((i : Int)) + 1 ≤ (9223372036854775807 : Int) by omega) ?_
  refine ops_nil ?_
  refine nx_any trivial ?_
  refine any_2 4 (bm 18 5695) 11 (bm 18 7727) (by kernel_rfl) rfl (by kernel_rfl) rfl (by kernel_rfl) ?_ ?_
  refine ops_add (a := (i : Int)) (b := 1) (kd := .i64) (by kernel_rfl) (by kernel_rfl) (by kernel_rfl) (by kernel_rfl) (show (-9223372036854775808 : Int) ≤ ((i : Int)) + 1 by omega) (show ((i : Int)) + 1 ≤ (9223372036854775807 : Int) by omega) ?_
  refine ops_nil ?_
  refine nx_any trivial ?_
  refine any_2 6 (bm 18 5759) 11 (bm 18 7743) (by kernel_rfl) rfl (by kernel_rfl) rfl (by kernel_rfl) ?_ ?_
  refine ops_add (a := ((i : Int)) + 1) (b := n1) (kd := .i64) (by kernel_rfl) (by kernel_rfl) (by kernel_rfl) (by kernel_rfl) (show (-9223372036854775808 : Int) ≤ (((i : Int)) + 1) + n1 by omega) (show (((i : Int)) + 1) + n1 ≤ (9223372036854775807 : Int) by omega) ?_
  refine ops_nil ?_
  refine nx_any trivial ?_
  have h17 := h14.keep0 c2 (by omega)
  refine any_part (q := 7) (listed' := (bm 18 5887)) (e := 5) (i := ((i : Int)) + 1) (kd := .i64) (i' := (((i : Int)) + 1) + n1) (kd' := .i64) ((i) + 1) (i + 1 + n1.toNat) panK_FB (by kernel_rfl) rfl (by kernel_rfl) (by kernel_rfl) (by kernel_rfl) (by kernel_rfl) (by kernel_rfl) (by kernel_rfl) (by kernel_rfl) (by kernel_rfl) (by kernel_rfl) h17 (by first | omega | (simp only [List.length_append, List.length_cons, List.length_nil, List.length_take, List.length_drop, List.length_map]; omega)) (by first | omega | (simp only [List.length_append, List.length_cons, List.length_nil, List.length_take, List.length_drop, List.length_map]; omega)) (by first | omega | (simp only [List.length_append, List.length_cons, List.length_nil, List.length_take, List.length_drop, List.length_map]; omega)) (by first | omega | (simp only [List.length_append, List.length_cons, List.length_nil, List.length_take, List.length_drop, List.length_map]; omega)) (fun v2 h18 => ?_)
  replace h18 := bs_part h18 (by omega)
  refine any_2 8 (bm 18 6143) 11 (bm 18 7935) (by kernel_rfl) rfl (by kernel_rfl) rfl (by kernel_rfl) ?_ ?_
  refine ops_appendB (e := 5) (by_ := 1) (l1 := []) (l2 := ((b.drop ((i) + 1)).take ((i + 1 + n1.toNat) - ((i) + 1)))) (by kernel_rfl) (by kernel_rfl) (by kernel_rfl) (by kernel_rfl) (by kernel_rfl) (by kernel_rfl) (by kernel_rfl) (Own.nil w3 w3.heap.size 1 (Nat.le_refl _)) h18 (by first | omega | (simp only [List.length_append, List.length_cons, List.length_nil, List.length_take, List.length_drop, List.length_map]; omega)) (fun v3 w4 h20 c3 c4 => ?_)
  have z5 := c3.size
  refine ops_nil ?_
  refine nx_any trivial ?_
  refine any_takes [15] (fuel' := 5) (listed' := (bm 18 38911)) (l' := [(0, v), (2, v3), (3, .slice none 0 0), (4, .bool false), (5, .int .i64 ((i : Int))), (65, v), (66, .int .i64 ((i : Int))), (68, .int .i64 n1)]) panK_FB (by kernel_rfl) (by kernel_rfl) (by kernel_rfl) ?_
  refine any_1 11 (bm 18 40959) (by kernel_rfl) rfl (by kernel_rfl) ?_
  refine ops_add (a := (i : Int)) (b := 2) (kd := .i64) (by kernel_rfl) (by kernel_rfl) (by kernel_rfl) (by kernel_rfl) (show (-9223372036854775808 : Int) ≤ ((i : Int)) + 2 by omega) (show ((i : Int)) + 2 ≤ (9223372036854775807 : Int) by omega) ?_
  refine ops_nil ?_
  refine nx_any trivial ?_
  refine any_1 13 (bm 18 49151) (by kernel_rfl) rfl (by kernel_rfl) ?_
  refine ops_add (a := ((i : Int)) + 2) (b := n1) (kd := .i64) (by kernel_rfl) (by kernel_rfl) (by kernel_rfl) (by kernel_rfl) (show (-9223372036854775808 : Int) ≤ (((i : Int)) + 2) + n1 by omega) (show (((i : Int)) + 2) + n1 ≤ (9223372036854775807 : Int) by omega) ?_
  refine ops_nil ?_
  refine nx_any trivial ?_
  have h21 := h17.keep0 c3 (by omega)
  refine any_from (q := 14) (listed' := (bm 18 65535)) (e := 5) (i := (((i : Int)) + 2) + n1) (kd := .i64) (((((i : Int)) + 2) + n1).toNat) panK_FB (by kernel_rfl) rfl (by kernel_rfl) (by kernel_rfl) (by kernel_rfl) (by kernel_rfl) (by kernel_rfl) (by kernel_rfl) (by kernel_rfl) (by kernel_rfl) h21 (by first | omega | (simp only [List.length_append, List.length_cons, List.length_nil, List.length_take, List.length_drop, List.length_map]; omega)) (by first | omega | (simp only [List.length_append, List.length_cons, List.length_nil, List.length_take, List.length_drop, List.length_map]; omega)) (fun v4 h22 => ?_)
  replace h22 := bs_from h22
  refine any_takes [16, 17] (fuel' := 0) (listed' := (bm 18 262143)) (l' := [(0, v), (2, v3), (3, v4), (4, .bool true), (5, .int .i64 ((i : Int)))]) panK_FB (by kernel_rfl) (by kernel_rfl) (by kernel_rfl) ?_
  refine any_done (by kernel_rfl) ?_
  refine nx_seq ?_
  refine at_ret (rs := [.tmp 2, .tmp 3, .tmp 4]) (vs := [v3, v4, .bool true]) rfl (by kernel_rfl) ?_
  have hca : CutAt b i (valN (b.take i)) := ⟨by have := List.length_pos_iff.2 hns.1.1; rw [List.length_take] at this; omega, by omega, by omega, fun j hj => by have := hns.1.2.1 j (by rw [List.length_take]; omega); rwa [bAt_take hj] at this, by omega, fun h => by have := hns.1.2.2 (by rw [bAt_take (by have := List.length_pos_iff.2 hns.1.1; rw [List.length_take] at this; omega)]; exact h); rw [List.length_take] at this; omega, rfl, by omega, by rw [← show i + 1 + n1.toNat = i + 1 + valN (b.take i) by omega]; omega⟩
  have hcr := hca.cut
  rw [List.nil_append, show ((i + 1 + n1.toNat) - ((i) + 1)) = valN (b.take i) by omega] at h20
  rw [show (((((i : Int)) + 2) + n1).toNat) = i + valN (b.take i) + 2 by omega] at h22
  exact ⟨_, rfl, (((((Chg.refl [] w).step0 h1 (by omega)).step0 c1 (by omega)).step0 c2 (by omega)).step0 c3 (by omega)), .inl ⟨_, _, _, _, rfl, hcr, h20.down (by omega), h22⟩⟩
  refine ops_add (a := (i : Int)) (b := 2) (kd := .i64) (by kernel_rfl) (by kernel_rfl) (by kernel_rfl) (by kernel_rfl) (show (-9223372036854775808 : Int) ≤ ((i : Int)) + 2 by omega) (show ((i : Int)) + 2 ≤ (9223372036854775807 : Int) by omega) ?_
  refine ops_nil ?_
  refine nx_any trivial ?_
  refine any_2 8 (bm 18 8191) 13 (bm 18 16127) (by kernel_rfl) rfl (by kernel_rfl) rfl (by kernel_rfl) ?_ ?_
  refine ops_appendB (e := 5) (by_ := 1) (l1 := []) (l2 := ((b.drop ((i) + 1)).take ((i + 1 + n1.toNat) - ((i) + 1)))) (by kernel_rfl) (by kernel_rfl) (by kernel_rfl) (by kernel_rfl) (by kernel_rfl) (by kernel_rfl) (by kernel_rfl) (Own.nil w3 w3.heap.size 1 (Nat.le_refl _)) h18 (by first | omega | (simp only [List.length_append, List.length_cons, List.length_nil, List.length_take, List.length_drop, List.length_map]; omega)) (fun v5 w5 h24 c5 c6 => ?_)
  have z6 := c5.size
  refine ops_nil ?_
  refine nx_any trivial ?_
  refine any_takes [15] (fuel' := 4) (listed' := (bm 18 40959)) (l' := [(0, v), (2, v5), (3, .slice none 0 0), (4, .bool false), (5, .int .i64 ((i : Int))), (65, v), (67, .int .i64 (((i : Int)) + 2)), (68, .int .i64 n1)]) panK_FB (by kernel_rfl) (by kernel_rfl) (by kernel_rfl) ?_
  refine any_1 13 (bm 18 49151) (by kernel_rfl) rfl (by kernel_rfl) ?_
  refine ops_add (a := ((i : Int)) + 2) (b := n1) (kd := .i64) (by kernel_rfl) (by kernel_rfl) (by kernel_rfl) (by kernel_rfl) (show (-9223372036854775808 : Int) ≤ (((i : Int)) + 2) + n1 by omega) (show (((i : Int)) + 2) + n1 ≤ (9223372036854775807 : Int) by omega) ?_
  refine ops_nil ?_
  refine nx_any trivial ?_
  have h25 := h17.keep0 c5 (by omega)
  refine any_from (q := 14) (listed' := (bm 18 65535)) (e := 5) (i := (((i : Int)) + 2) + n1) (kd := .i64) (((((i : Int)) + 2) + n1).toNat) panK_FB (by kernel_rfl) rfl (by kernel_rfl) (by kernel_rfl) (by kernel_rfl) (by kernel_rfl) (by kernel_rfl) (by kernel_rfl) (by kernel_rfl) (by kernel_rfl) h25 (by first | omega | (simp only [List.length_append, List.length_cons, List.length_nil, List.length_take, List.length_drop, List.length_map]; omega)) (by first | omega | (simp only [List.length_append, List.length_cons, List.length_nil, List.length_take, List.length_drop, List.length_map]; omega)) (fun v6 h26 => ?_)
  replace h26 := bs_from h26
  refine any_takes [16, 17] (fuel' := 0) (listed' := (bm 18 262143)) (l' := [(0, v), (2, v5), (3, v6), (4, .bool true), (5, .int .i64 ((i : Int)))]) panK_FB (by kernel_rfl) (by kernel_rfl) (by kernel_rfl) ?_
  refine any_done (by kernel_rfl) ?_
  refine nx_seq ?_
  refine at_ret (rs := [.tmp 2, .tmp 3, .tmp 4]) (vs := [v5, v6, .bool true]) rfl (by kernel_rfl) ?_
  have hca : CutAt b i (valN (b.take i)) := ⟨by have := List.length_pos_iff.2 hns.1.1; rw [List.length_take] at this; omega, by omega, by omega, fun j hj => by have := hns.1.2.1 j (by rw [List.length_take]; omega); rwa [bAt_take hj] at this, by omega, fun h => by have := hns.1.2.2 (by rw [bAt_take (by have := List.length_pos_iff.2 hns.1.1; rw [List.length_take] at this; omega)]; exact h); rw [List.length_take] at this; omega, rfl, by omega, by rw [← show i + 1 + n1.toNat = i + 1 + valN (b.take i) by omega]; omega⟩
  have hcr := hca.cut
  rw [List.nil_append, show ((i + 1 + n1.toNat) - ((i) + 1)) = valN (b.take i) by omega] at h24
  rw [show (((((i : Int)) + 2) + n1).toNat) = i + valN (b.take i) + 2 by omega] at h26
  exact ⟨_, rfl, (((((Chg.refl [] w).step0 h1 (by omega)).step0 c1 (by omega)).step0 c2 (by omega)).step0 c5 (by omega)), .inl ⟨_, _, _, _, rfl, hcr, h24.down (by omega), h26⟩⟩
  refine ops_add (a := ((i : Int)) + 2) (b := n1) (kd := .i64) (by kernel_rfl) (by kernel_rfl) (by kernel_rfl) (by kernel_rfl) (show (-9223372036854775808 : Int) ≤ (((i : Int)) + 2) + n1 by omega) (show (((i : Int)) + 2) + n1 ≤ (9223372036854775807 : Int) by omega) ?_
  refine ops_nil ?_
  refine nx_any trivial ?_
  refine any_from (q := 14) (listed' := (bm 18 32511)) (e := 5) (i := (((i : Int)) + 2) + n1) (kd := .i64) (((((i : Int)) + 2) + n1).toNat) panK_FB (by kernel_rfl) rfl (by kernel_rfl) (by kernel_rfl) (by kernel_rfl) (by kernel_rfl) (by kernel_rfl) (by kernel_rfl) (by kernel_rfl) (by kernel_rfl) h17 (by first | omega | (simp only [List.length_append, List.length_cons, List.length_nil, List.length_take, List.length_drop, List.length_map]; omega)) (by first | omega | (simp only [List.length_append, List.length_cons, List.length_nil, List.length_take, List.length_drop, List.length_map]; omega)) (fun v7 h28 => ?_)
  replace h28 := bs_from h28
  refine any_1 8 (bm 18 32767) (by kernel_rfl) rfl (by kernel_rfl) ?_
  refine ops_appendB (e := 5) (by_ := 1) (l1 := []) (l2 := ((b.drop ((i) + 1)).take ((i + 1 + n1.toNat) - ((i) + 1)))) (by kernel_rfl) (by kernel_rfl) (by kernel_rfl) (by kernel_rfl) (by kernel_rfl) (by kernel_rfl) (by kernel_rfl) (Own.nil w3 w3.heap.size 1 (Nat.le_refl _)) h18 (by first | omega | (simp only [List.length_append, List.length_cons, List.length_nil, List.length_take, List.length_drop, List.length_map]; omega)) (fun v8 w6 h30 c7 c8 => ?_)
  have z7 := c7.size
  refine ops_nil ?_
  refine nx_any trivial ?_
  refine any_takes [15, 16, 17] (fuel' := 0) (listed' := (bm 18 262143)) (l' := [(0, v), (2, v8), (3, v7), (4, .bool true), (5, .int .i64 ((i : Int)))]) panK_FB (by kernel_rfl) (by kernel_rfl) (by kernel_rfl) ?_
  refine any_done (by kernel_rfl) ?_
  refine nx_seq ?_
  refine at_ret (rs := [.tmp 2, .tmp 3, .tmp 4]) (vs := [v8, v7, .bool true]) rfl (by kernel_rfl) ?_
  have h31 := h28.keep0 c7 (by omega)
  have hca : CutAt b i (valN (b.take i)) := ⟨by have := List.length_pos_iff.2 hns.1.1; rw [List.length_take] at this; omega, by omega, by omega, fun j hj => by have := hns.1.2.1 j (by rw [List.length_take]; omega); rwa [bAt_take hj] at this, by omega, fun h => by have := hns.1.2.2 (by rw [bAt_take (by have := List.length_pos_iff.2 hns.1.1; rw [List.length_take] at this; omega)]; exact h); rw [List.length_take] at this; omega, rfl, by omega, by rw [← show i + 1 + n1.toNat = i + 1 + valN (b.take i) by omega]; omega⟩
  have hcr := hca.cut
  rw [List.nil_append, show ((i + 1 + n1.toNat) - ((i) + 1)) = valN (b.take i) by omega] at h30
  rw [show (((((i : Int)) + 2) + n1).toNat) = i + valN (b.take i) + 2 by omega] at h31
  exact ⟨_, rfl, (((((Chg.refl [] w).step0 h1 (by omega)).step0 c1 (by omega)).step0 c2 (by omega)).step0 c7 (by omega)), .inl ⟨_, _, _, _, rfl, hcr, h30.down (by omega), h31⟩⟩
  refine ops_add (a := (i : Int)) (b := 2) (kd := .i64) (by kernel_rfl) (by kernel_rfl) (by kernel_rfl) (by kernel_rfl) (show (-9223372036854775808 : Int) ≤ ((i : Int)) + 2 by omega) (show ((i : Int)) + 2 ≤ (9223372036854775807 : Int) by omega) ?_
  refine ops_nil ?_
  refine nx_any trivial ?_
  refine any_2 6 (bm 18 7807) 13 (bm 18 15935) (by kernel_rfl) rfl (by kernel_rfl) rfl (by kernel_rfl) ?_ ?_
  refine ops_add (a := ((i : Int)) + 1) (b := n1) (kd := .i64) (by kernel_rfl) (by kernel_rfl) (by kernel_rfl) (by kernel_rfl) (show (-9223372036854775808 : Int) ≤ (((i : Int)) + 1) + n1 by omega) (show (((i : Int)) + 1) + n1 ≤ (9223372036854775807 : Int) by omega) ?_
  refine ops_nil ?_
  refine nx_any trivial ?_
  have h32 := h14.keep0 c2 (by omega)
  refine any_part (q := 7) (listed' := (bm 18 7935)) (e := 5) (i := ((i : Int)) + 1) (kd := .i64) (i' := (((i : Int)) + 1) + n1) (kd' := .i64) ((i) + 1) (i + 1 + n1.toNat) panK_FB (by kernel_rfl) rfl (by kernel_rfl) (by kernel_rfl) (by kernel_rfl) (by kernel_rfl) (by kernel_rfl) (by kernel_rfl) (by kernel_rfl) (by kernel_rfl) (by kernel_rfl) h32 (by first | omega | (simp only [List.length_append, List.length_cons, List.length_nil, List.length_take, List.length_drop, List.length_map]; omega)) (by first | omega | (simp only [List.length_append, List.length_cons, List.length_nil, List.length_take, List.length_drop, List.length_map]; omega)) (by first | omega | (simp only [List.length_append, List.length_cons, List.length_nil, List.length_take, List.length_drop, List.length_map]; omega)) (by first | omega | (simp only [List.length_append, List.length_cons, List.length_nil, List.length_take, List.length_drop, List.length_map]; omega)) (fun v9 h33 => ?_)
  replace h33 := bs_part h33 (by omega)
  refine any_2 8 (bm 18 8191) 13 (bm 18 16127) (by kernel_rfl) rfl (by kernel_rfl) rfl (by kernel_rfl) ?_ ?_
  refine ops_appendB (e := 5) (by_ := 1) (l1 := []) (l2 := ((b.drop ((i) + 1)).take ((i + 1 + n1.toNat) - ((i) + 1)))) (by kernel_rfl) (by kernel_rfl) (by kernel_rfl) (by kernel_rfl) (by kernel_rfl) (by kernel_rfl) (by kernel_rfl) (Own.nil w3 w3.heap.size 1 (Nat.le_refl _)) h33 (by first | omega | (simp only [List.length_append, List.length_cons, List.length_nil, List.length_take, List.length_drop, List.length_map]; omega)) (fun v10 w7 h35 c9 c10 => ?_)
  have z8 := c9.size
  refine ops_nil ?_
  refine nx_any trivial ?_
  refine any_takes [15] (fuel' := 4) (listed' := (bm 18 40959)) (l' := [(0, v), (2, v10), (3, .slice none 0 0), (4, .bool false), (5, .int .i64 ((i : Int))), (65, v), (67, .int .i64 (((i : Int)) + 2)), (68, .int .i64 n1)]) panK_FB (by kernel_rfl) (by kernel_rfl) (by kernel_rfl) ?_
  refine any_1 13 (bm 18 49151) (by kernel_rfl) rfl (by kernel_rfl) ?_
  refine ops_add (a := ((i : Int)) + 2) (b := n1) (kd := .i64) (by kernel_rfl) (by kernel_rfl) (by kernel_rfl) (by kernel_rfl) (show (-9223372036854775808 : Int) ≤ (((i : Int)) + 2) + n1 by omega) (show (((i : Int)) + 2) + n1 ≤ (9223372036854775807 : Int) by omega) ?_
  refine ops_nil ?_
  refine nx_any trivial ?_
  have h36 := h32.keep0 c9 (by omega)
  refine any_from (q := 14) (listed' := (bm 18 65535)) (e := 5) (i := (((i : Int)) + 2) + n1) (kd := .i64) (((((i : Int)) + 2) + n1).toNat) panK_FB (by kernel_rfl) rfl (by kernel_rfl) (by kernel_rfl) (by kernel_rfl) (by kernel_rfl) (by kernel_rfl) (by kernel_rfl) (by kernel_rfl) (by kernel_rfl) h36 (by first | omega | (simp only [List.length_append, List.length_cons, List.length_nil, List.length_take, List.length_drop, List.length_map]; omega)) (by first | omega | (simp only [List.length_append, List.length_cons, List.length_nil, List.length_take, List.length_drop, List.length_map]; omega)) (fun v11 h37 => ?_)
  replace h37 := bs_from h37
  refine any_takes [16, 17] (fuel' := 0) (listed' := (bm 18 262143)) (l' := [(0, v), (2, v10), (3, v11), (4, .bool true), (5, .int .i64 ((i : Int)))]) panK_FB (by kernel_rfl) (by kernel_rfl) (by kernel_rfl) ?_
  refine any_done (by kernel_rfl) ?_
  refine nx_seq ?_
  refine at_ret (rs := [.tmp 2, .tmp 3, .tmp 4]) (vs := [v10, v11, .bool true]) rfl (by kernel_rfl) ?_
  have hca : CutAt b i (valN (b.take i)) := ⟨by have := List.length_pos_iff.2 hns.1.1; rw [List.length_take] at this; omega, by omega, by omega, fun j hj => by have := hns.1.2.1 j (by rw [List.length_take]; omega); rwa [bAt_take hj] at this, by omega, fun h => by have := hns.1.2.2 (by rw [bAt_take (by have := List.length_pos_iff.2 hns.1.1; rw [List.length_take] at this; omega)]; exact h); rw [List.length_take] at this; omega, rfl, by omega, by rw [← show i + 1 + n1.toNat = i + 1 + valN (b.take i) by omega]; omega⟩
  have hcr := hca.cut
  rw [List.nil_append, show ((i + 1 + n1.toNat) - ((i) + 1)) = valN (b.take i) by omega] at h35
  rw [show (((((i : Int)) + 2) + n1).toNat) = i + valN (b.take i) + 2 by omega] at h37
  exact ⟨_, rfl, (((((Chg.refl [] w).step0 h1 (by omega)).step0 c1 (by omega)).step0 c2 (by omega)).step0 c9 (by omega)), .inl ⟨_, _, _, _, rfl, hcr, h35.down (by omega), h37⟩⟩
  refine ops_add (a := ((i : Int)) + 2) (b := n1) (kd := .i64) (by kernel_rfl) (by kernel_rfl) (by kernel_rfl) (by kernel_rfl) (show (-9223372036854775808 : Int) ≤ (((i : Int)) + 2) + n1 by omega) (show (((i : Int)) + 2) + n1 ≤ (9223372036854775807 : Int) by omega) ?_
  refine ops_nil ?_
  refine nx_any trivial ?_
  refine any_from (q := 14) (listed' := (bm 18 32511)) (e := 5) (i := (((i : Int)) + 2) + n1) (kd := .i64) (((((i : Int)) + 2) + n1).toNat) panK_FB (by kernel_rfl) rfl (by kernel_rfl) (by kernel_rfl) (by kernel_rfl) (by kernel_rfl) (by kernel_rfl) (by kernel_rfl) (by kernel_rfl) (by kernel_rfl) h32 (by first | omega | (simp only [List.length_append, List.length_cons, List.length_nil, List.length_take, List.length_drop, List.length_map]; omega)) (by first | omega | (simp only [List.length_append, List.length_cons, List.length_nil, List.length_take, List.length_drop, List.length_map]; omega)) (fun v12 h39 => ?_)
  replace h39 := bs_from h39
  refine any_1 8 (bm 18 32767) (by kernel_rfl) rfl (by kernel_rfl) ?_
  refine ops_appendB (e := 5) (by_ := 1) (l1 := []) (l2 := ((b.drop ((i) + 1)).take ((i + 1 + n1.toNat) - ((i) + 1)))) (by kernel_rfl) (by kernel_rfl) (by kernel_rfl) (by kernel_rfl) (by kernel_rfl) (by kernel_rfl) (by kernel_rfl) (Own.nil w3 w3.heap.size 1 (Nat.le_refl _)) h33 (by first | omega | (simp only [List.length_append, List.length_cons, List.length_nil, List.length_take, List.length_drop, List.length_map]; omega)) (fun v13 w8 h41 c11 c12 => ?_)
  have z9 := c11.size
  refine ops_nil ?_
  refine nx_any trivial ?_
  refine any_takes [15, 16, 17] (fuel' := 0) (listed' := (bm 18 262143)) (l' := [(0, v), (2, v13), (3, v12), (4, .bool true), (5, .int .i64 ((i : Int)))]) panK_FB (by kernel_rfl) (by kernel_rfl) (by kernel_rfl) ?_
  refine any_done (by kernel_rfl) ?_
  refine nx_seq ?_
  refine at_ret (rs := [.tmp 2, .tmp 3, .tmp 4]) (vs := [v13, v12, .bool true]) rfl (by kernel_rfl) ?_
  have h42 := h39.keep0 c11 (by omega)
  have hca : CutAt b i (valN (b.take i)) := ⟨by have := List.length_pos_iff.2 hns.1.1; rw [List.length_take] at this; omega, by omega, by omega, fun j hj => by have := hns.1.2.1 j (by rw [List.length_take]; omega); rwa [bAt_take hj] at this, by omega, fun h => by have := hns.1.2.2 (by rw [bAt_take (by have := List.length_pos_iff.2 hns.1.1; rw [List.length_take] at this; omega)]; exact h); rw [List.length_take] at this; omega, rfl, by omega, by rw [← show i + 1 + n1.toNat = i + 1 + valN (b.take i) by omega]; omega⟩
  have hcr := hca.cut
  rw [List.nil_append, show ((i + 1 + n1.toNat) - ((i) + 1)) = valN (b.take i) by omega] at h41
  rw [show (((((i : Int)) + 2) + n1).toNat) = i + valN (b.take i) + 2 by omega] at h42
  exact ⟨_, rfl, (((((Chg.refl [] w).step0 h1 (by omega)).step0 c1 (by omega)).step0 c2 (by omega)).step0 c11 (by omega)), .inl ⟨_, _, _, _, rfl, hcr, h41.down (by omega), h42⟩⟩
  refine ops_add (a := ((i : Int)) + 2) (b := n1) (kd := .i64) (by kernel_rfl) (by kernel_rfl) (by kernel_rfl) (by kernel_rfl) (show (-9223372036854775808 : Int) ≤ (((i : Int)) + 2) + n1 by omega) (show (((i : Int)) + 2) + n1 ≤ (9223372036854775807 : Int) by omega) ?_
  refine ops_nil ?_
  refine nx_any trivial ?_
  have h43 := h14.keep0 c2 (by omega)
  refine any_from (q := 14) (listed' := (bm 18 32319)) (e := 5) (i := (((i : Int)) + 2) + n1) (kd := .i64) (((((i : Int)) + 2) + n1).toNat) panK_FB (by kernel_rfl) rfl (by kernel_rfl) (by kernel_rfl) (by kernel_rfl) (by kernel_rfl) (by kernel_rfl) (by kernel_rfl) (by kernel_rfl) (by kernel_rfl) h43 (by first | omega | (simp only [List.length_append, List.length_cons, List.length_nil, List.length_take, List.length_drop, List.length_map]; omega)) (by first | omega | (simp only [List.length_append, List.length_cons, List.length_nil, List.length_take, List.length_drop, List.length_map]; omega)) (fun v14 h44 => ?_)
  replace h44 := bs_from h44
  refine any_1 6 (bm 18 32383) (by kernel_rfl) rfl (by kernel_rfl) ?_
  refine ops_add (a := ((i : Int)) + 1) (b := n1) (kd := .i64) (by kernel_rfl) (by kernel_rfl) (by kernel_rfl) (by kernel_rfl) (show (-9223372036854775808 : Int) ≤ (((i : Int)) + 1) + n1 by omega) (show (((i : Int)) + 1) + n1 ≤ (9223372036854775807 : Int) by omega) ?_
  refine ops_nil ?_
  refine nx_any trivial ?_
  refine any_part (q := 7) (listed' := (bm 18 32511)) (e := 5) (i := ((i : Int)) + 1) (kd := .i64) (i' := (((i : Int)) + 1) + n1) (kd' := .i64) ((i) + 1) (i + 1 + n1.toNat) panK_FB (by kernel_rfl) rfl (by kernel_rfl) (by kernel_rfl) (by kernel_rfl) (by kernel_rfl) (by kernel_rfl) (by kernel_rfl) (by kernel_rfl) (by kernel_rfl) (by kernel_rfl) h43 (by first | omega | (simp only [List.length_append, List.length_cons, List.length_nil, List.length_take, List.length_drop, List.length_map]; omega)) (by first | omega | (simp only [List.length_append, List.length_cons, List.length_nil, List.length_take, List.length_drop, List.length_map]; omega)) (by first | omega | (simp only [List.length_append, List.length_cons, List.length_nil, List.length_take, List.length_drop, List.length_map]; omega)) (by first | omega | (simp only [List.length_append, List.length_cons, List.length_nil, List.length_take, List.length_drop, List.length_map]; omega)) (fun v15 h46 => ?_)
  replace h46 := bs_part h46 (by omega)
  refine any_1 8 (bm 18 32767) (by kernel_rfl) rfl (by kernel_rfl) ?_
  refine ops_appendB (e := 5) (by_ := 1) (l1 := []) (l2 := ((b.drop ((i) + 1)).take ((i + 1 + n1.toNat) - ((i) + 1)))) (by kernel_rfl) (by kernel_rfl) (by kernel_rfl) (by kernel_rfl) (by kernel_rfl) (by kernel_rfl) (by kernel_rfl) (Own.nil w3 w3.heap.size 1 (Nat.le_refl _)) h46 (by first | omega | (simp only [List.length_append, List.length_cons, List.length_nil, List.length_take, List.length_drop, List.length_map]; omega)) (fun v16 w9 h48 c13 c14 => ?_)
  have z10 := c13.size
  refine ops_nil ?_
  refine nx_any trivial ?_
  refine any_takes [15, 16, 17] (fuel' := 0) (listed' := (bm 18 262143)) (l' := [(0, v), (2, v16), (3, v14), (4, .bool true), (5, .int .i64 ((i : Int)))]) panK_FB (by kernel_rfl) (by kernel_rfl) (by kernel_rfl) ?_
  refine any_done (by kernel_rfl) ?_
  refine nx_seq ?_
  refine at_ret (rs := [.tmp 2, .tmp 3, .tmp 4]) (vs := [v16, v14, .bool true]) rfl (by kernel_rfl) ?_
  have h49 := h44.keep0 c13 (by omega)
  have hca : CutAt b i (valN (b.take i)) := ⟨by have := List.length_pos_iff.2 hns.1.1; rw [List.length_take] at this; omega, by omega, by omega, fun j hj => by have := hns.1.2.1 j (by rw [List.length_take]; omega); rwa [bAt_take hj] at this, by omega, fun h => by have := hns.1.2.2 (by rw [bAt_take (by have := List.length_pos_iff.2 hns.1.1; rw [List.length_take] at this; omega)]; exact h); rw [List.length_take] at this; omega, rfl, by omega, by rw [← show i + 1 + n1.toNat = i + 1 + valN (b.take i) by omega]; omega⟩
  have hcr := hca.cut
  rw [List.nil_append, show ((i + 1 + n1.toNat) - ((i) + 1)) = valN (b.take i) by omega] at h48
  rw [show (((((i : Int)) + 2) + n1).toNat) = i + valN (b.take i) + 2 by omega] at h49
  exact ⟨_, rfl, (((((Chg.refl [] w).step0 h1 (by omega)).step0 c1 (by omega)).step0 c2 (by omega)).step0 c13 (by omega)), .inl ⟨_, _, _, _, rfl, hcr, h48.down (by omega), h49⟩⟩
  refine ops_add (a := (i : Int)) (b := 2) (kd := .i64) (by kernel_rfl) (by kernel_rfl) (by kernel_rfl) (by kernel_rfl) (show (-9223372036854775808 : Int) ≤ ((i : Int)) + 2 by omega) (show ((i : Int)) + 2 ≤ (9223372036854775807 : Int) by omega) ?_
  refine ops_nil ?_
  refine nx_any trivial ?_
  refine any_2 4 (bm 18 7743) 13 (bm 18 15919) (by kernel_rfl) rfl (by kernel_rfl) rfl (by kernel_rfl) ?_ ?_
  refine ops_add (a := (i : Int)) (b := 1) (kd := .i64) (by kernel_rfl) (by kernel_rfl) (by kernel_rfl) (by kernel_rfl) (show (-9223372036854775808 : Int) ≤ ((i : Int)) + 1 by omega) (show ((i : Int)) + 1 ≤ (9223372036854775807 : Int) by omega) ?_
  refine ops_nil ?_
  refine nx_any trivial ?_
  refine any_2 6 (bm 18 7807) 13 (bm 18 15935) (by kernel_rfl) rfl (by kernel_rfl) rfl (by kernel_rfl) ?_ ?_
  refine ops_add (a := ((i : Int)) + 1) (b := n1) (kd := .i64) (by kernel_rfl) (by kernel_rfl) (by kernel_rfl) (by kernel_rfl) (show (-9223372036854775808 : Int) ≤ (((i : Int)) + 1) + n1 by omega) (show (((i : Int)) + 1) + n1 ≤ (9223372036854775807 : Int) by omega) ?_
  refine ops_nil ?_
  refine nx_any trivial ?_
  have h50 := h14.keep0 c2 (by omega)
  refine any_part (q := 7) (listed' := (bm 18 7935)) (e := 5) (i := ((i : Int)) + 1) (kd := .i64) (i' := (((i : Int)) + 1) + n1) (kd' := .i64) ((i) + 1) (i + 1 + n1.toNat) panK_FB (by kernel_rfl) rfl (by kernel_rfl) (by kernel_rfl) (by kernel_rfl) (by kernel_rfl) (by kernel_rfl) (by kernel_rfl) (by kernel_rfl) (by kernel_rfl) (by kernel_rfl) h50 (by first | omega | (simp only [List.length_append, List.length_cons, List.length_nil, List.length_take, List.length_drop, List.length_map]; omega)) (by first | omega | (simp only [List.length_append, List.length_cons, List.length_nil, List.length_take, List.length_drop, List.length_map]; omega)) (by first | omega | (simp only [List.length_append, List.length_cons, List.length_nil, List.length_take, List.length_drop, List.length_map]; omega)) (by first | omega | (simp only [List.length_append, List.length_cons, List.length_nil, List.length_take, List.length_drop, List.length_map]; omega)) (fun v17 h51 => ?_)
  replace h51 := bs_part h51 (by omega)
  refine any_2 8 (bm 18 8191) 13 (bm 18 16127) (by kernel_rfl) rfl (by kernel_rfl) rfl (by kernel_rfl) ?_ ?_
  refine ops_appendB (e := 5) (by_ := 1) (l1 := []) (l2 := ((b.drop ((i) + 1)).take ((i + 1 + n1.toNat) - ((i) + 1)))) (by kernel_rfl) (by kernel_rfl) (by kernel_rfl) (by kernel_rfl) (by kernel_rfl) (by kernel_rfl) (by kernel_rfl) (Own.nil w3 w3.heap.size 1 (Nat.le_refl _)) h51 (by first | omega | (simp only [List.length_append, List.length_cons, List.length_nil, List.length_take, List.length_drop, List.length_map]; omega)) (fun v18 w10 h53 c15 c16 => ?_)
  have z11 := c15.size
  refine ops_nil ?_
  refine nx_any trivial ?_
  refine any_takes [15] (fuel' := 4) (listed' := (bm 18 40959)) (l' := [(0, v), (2, v18), (3, .slice none 0 0), (4, .bool false), (5, .int .i64 ((i : Int))), (65, v), (67, .int .i64 (((i : Int)) + 2)), (68, .int .i64 n1)]) panK_FB (by kernel_rfl) (by kernel_rfl) (by kernel_rfl) ?_
  refine any_1 13 (bm 18 49151) (by kernel_rfl) rfl (by kernel_rfl) ?_
  refine ops_add (a := ((i : Int)) + 2) (b := n1) (kd := .i64) (by kernel_rfl) (by kernel_rfl) (by kernel_rfl) (by kernel_rfl) (show (-9223372036854775808 : Int) ≤ (((i : Int)) + 2) + n1 by omega) (show (((i : Int)) + 2) + n1 ≤ (9223372036854775807 : Int) by omega) ?_
  refine ops_nil ?_
  refine nx_any trivial ?_
  have h54 := h50.keep0 c15 (by omega)
  refine any_from (q := 14) (listed' := (bm 18 65535)) (e := 5) (i := (((i : Int)) + 2) + n1) (kd := .i64) (((((i : Int)) + 2) + n1).toNat) panK_FB (by kernel_rfl) rfl (by kernel_rfl) (by kernel_rfl) (by kernel_rfl) (by kernel_rfl) (by kernel_rfl) (by kernel_rfl) (by kernel_rfl) (by kernel_rfl) h54 (by first | omega | (simp only [List.length_append, List.length_cons, List.length_nil, List.length_take, List.length_drop, List.length_map]; omega)) (by first | omega | (simp only [List.length_append, List.length_cons, List.length_nil, List.length_take, List.length_drop, List.length_map]; omega)) (fun v19 h55 => ?_)
  replace h55 := bs_from h55
  refine any_takes [16, 17] (fuel' := 0) (listed' := (bm 18 262143)) (l' := [(0, v), (2, v18), (3, v19), (4, .bool true), (5, .int .i64 ((i : Int)))]) panK_FB (by kernel_rfl) (by kernel_rfl) (by kernel_rfl) ?_
  refine any_done (by kernel_rfl) ?_
  refine nx_seq ?_
  refine at_ret (rs := [.tmp 2, .tmp 3, .tmp 4]) (vs := [v18, v19, .bool true]) rfl (by kernel_rfl) ?_
  have hca : CutAt b i (valN (b.take i)) := ⟨by have := List.length_pos_iff.2 hns.1.1; rw [List.length_take] at this; omega, by omega, by omega, fun j hj => by have := hns.1.2.1 j (by rw [List.length_take]; omega); rwa [bAt_take hj] at this, by omega, fun h => by have := hns.1.2.2 (by rw [bAt_take (by have := List.length_pos_iff.2 hns.1.1; rw [List.length_take] at this; omega)]; exact h); rw [List.length_take] at this; omega, rfl, by omega, by rw [← show i + 1 + n1.toNat = i + 1 + valN (b.take i) by omega]; omega⟩
  have hcr := hca.cut
  rw [List.nil_append, show ((i + 1 + n1.toNat) - ((i) + 1)) = valN (b.take i) by omega] at h53
  rw [show (((((i : Int)) + 2) + n1).toNat) = i + valN (b.take i) + 2 by omega] at h55
  exact ⟨_, rfl, (((((Chg.refl [] w).step0 h1 (by omega)).step0 c1 (by omega)).step0 c2 (by omega)).step0 c15 (by omega)), .inl ⟨_, _, _, _, rfl, hcr, h53.down (by omega), h55⟩⟩
  refine ops_add (a := ((i : Int)) + 2) (b := n1) (kd := .i64) (by kernel_rfl) (by kernel_rfl) (by kernel_rfl) (by kernel_rfl) (show (-9223372036854775808 : Int) ≤ (((i : Int)) + 2) + n1 by omega) (show (((i : Int)) + 2) + n1 ≤ (9223372036854775807 : Int) by omega) ?_
  refine ops_nil ?_
  refine nx_any trivial ?_
  refine any_from (q := 14) (listed' := (bm 18 32511)) (e := 5) (i := (((i : Int)) + 2) + n1) (kd := .i64) (((((i : Int)) + 2) + n1).toNat) panK_FB (by kernel_rfl) rfl (by kernel_rfl) (by kernel_rfl) (by kernel_rfl) (by kernel_rfl) (by kernel_rfl) (by kernel_rfl) (by kernel_rfl) (by kernel_rfl) h50 (by first | omega | (simp only [List.length_append, List.length_cons, List.length_nil, List.length_take, List.length_drop, List.length_map]; omega)) (by first | omega | (simp only [List.length_append, List.length_cons, List.length_nil, List.length_take, List.length_drop, List.length_map]; omega)) (fun v20 h57 => ?_)
  replace h57 := bs_from h57
  refine any_1 8 (bm 18 32767) (by kernel_rfl) rfl (by kernel_rfl) ?_
  refine ops_appendB (e := 5) (by_ := 1) (l1 := []) (l2 := ((b.drop ((i) + 1)).take ((i + 1 + n1.toNat) - ((i) + 1)))) (by kernel_rfl) (by kernel_rfl) (by kernel_rfl) (by kernel_rfl) (by kernel_rfl) (by kernel_rfl) (by kernel_rfl) (Own.nil w3 w3.heap.size 1 (Nat.le_refl _)) h51 (by first | omega | (simp only [List.length_append, List.length_cons, List.length_nil, List.length_take, List.length_drop, List.length_map]; omega)) (fun v21 w11 h59 c17 c18 => ?_)
  have z12 := c17.size
  refine ops_nil ?_
  refine nx_any trivial ?_
  refine any_takes [15, 16, 17] (fuel' := 0) (listed' := (bm 18 262143)) (l' := [(0, v), (2, v21), (3, v20), (4, .bool true), (5, .int .i64 ((i : Int)))]) panK_FB (by kernel_rfl) (by kernel_rfl) (by kernel_rfl) ?_
  refine any_done (by kernel_rfl) ?_
  refine nx_seq ?_
  refine at_ret (rs := [.tmp 2, .tmp 3, .tmp 4]) (vs := [v21, v20, .bool true]) rfl (by kernel_rfl) ?_
  have h60 := h57.keep0 c17 (by omega)
  have hca : CutAt b i (valN (b.take i)) := ⟨by have := List.length_pos_iff.2 hns.1.1; rw [List.length_take] at this; omega, by omega, by omega, fun j hj => by have := hns.1.2.1 j (by rw [List.length_take]; omega); rwa [bAt_take hj] at this, by omega, fun h => by have := hns.1.2.2 (by rw [bAt_take (by have := List.length_pos_iff.2 hns.1.1; rw [List.length_take] at this; omega)]; exact h); rw [List.length_take] at this; omega, rfl, by omega, by rw [← show i + 1 + n1.toNat = i + 1 + valN (b.take i) by omega]; omega⟩
  have hcr := hca.cut
  rw [List.nil_append, show ((i + 1 + n1.toNat) - ((i) + 1)) = valN (b.take i) by omega] at h59
  rw [show (((((i : Int)) + 2) + n1).toNat) = i + valN (b.take i) + 2 by omega] at h60
  exact ⟨_, rfl, (((((Chg.refl [] w).step0 h1 (by omega)).step0 c1 (by omega)).step0 c2 (by omega)).step0 c17 (by omega)), .inl ⟨_, _, _, _, rfl, hcr, h59.down (by omega), h60⟩⟩
  refine ops_add (a := ((i : Int)) + 2) (b := n1) (kd := .i64) (by kernel_rfl) (by kernel_rfl) (by kernel_rfl) (by kernel_rfl) (show (-9223372036854775808 : Int) ≤ (((i : Int)) + 2) + n1 by omega) (show (((i : Int)) + 2) + n1 ≤ (9223372036854775807 : Int) by omega) ?_
  refine ops_nil ?_
  refine nx_any trivial ?_
  have h61 := h14.keep0 c2 (by omega)
  refine any_from (q := 14) (listed' := (bm 18 32319)) (e := 5) (i := (((i : Int)) + 2) + n1) (kd := .i64) (((((i : Int)) + 2) + n1).toNat) panK_FB (by kernel_rfl) rfl (by kernel_rfl) (by kernel_rfl) (by kernel_rfl) (by kernel_rfl) (by kernel_rfl) (by kernel_rfl) (by kernel_rfl) (by kernel_rfl) h61 (by first | omega | (simp only [List.length_append, List.length_cons, List.length_nil, List.length_take, List.length_drop, List.length_map]; omega)) (by first | omega | (simp only [List.length_append, List.length_cons, List.length_nil, List.length_take, List.length_drop, List.length_map]; omega)) (fun v22 h62 => ?_)
  replace h62 := bs_from h62
  refine any_1 6 (bm 18 32383) (by kernel_rfl) rfl (by kernel_rfl) ?_
  refine ops_add (a := ((i : Int)) + 1) (b := n1) (kd := .i64) (by kernel_rfl) (by kernel_rfl) (by kernel_rfl) (by kernel_rfl) (show (-9223372036854775808 : Int) ≤ (((i : Int)) + 1) + n1 by omega) (show (((i : Int)) + 1) + n1 ≤ (9223372036854775807 : Int) by omega) ?_
  refine ops_nil ?_
  refine nx_any trivial ?_
  refine any_part (q := 7) (listed' := (bm 18 32511)) (e := 5) (i := ((i : Int)) + 1) (kd := .i64) (i' := (((i : Int)) + 1) + n1) (kd' := .i64) ((i) + 1) (i + 1 + n1.toNat) panK_FB (by kernel_rfl) rfl (by kernel_rfl) (by kernel_rfl) (by kernel_rfl) (by kernel_rfl) (by kernel_rfl) (by kernel_rfl) (by kernel_rfl) (by kernel_rfl) (by kernel_rfl) h61 (by first | omega | (simp only [List.length_append, List.length_cons, List.length_nil, List.length_take, List.length_drop, List.length_map]; omega)) (by first | omega | (simp only [List.length_append, List.length_cons, List.length_nil, List.length_take, List.length_drop, List.length_map]; omega)) (by first | omega | (simp only [List.length_append, List.length_cons, List.length_nil, List.length_take, List.length_drop, List.length_map]; omega)) (by first | omega | (simp only [List.length_append, List.length_cons, List.length_nil, List.length_take, List.length_drop, List.length_map]; omega)) (fun v23 h64 => ?_)
  replace h64 := bs_part h64 (by omega)
  refine any_1 8 (bm 18 32767) (by kernel_rfl) rfl (by kernel_rfl) ?_
  refine ops_appendB (e := 5) (by_ := 1) (l1 := []) (l2 := ((b.drop ((i) + 1)).take ((i + 1 + n1.toNat) - ((i) + 1)))) (by kernel_rfl) (by kernel_rfl) (by kernel_rfl) (by kernel_rfl) (by kernel_rfl) (by kernel_rfl) (by kernel_rfl) (Own.nil w3 w3.heap.size 1 (Nat.le_refl _)) h64 (by first | omega | (simp only [List.length_append, List.length_cons, List.length_nil, List.length_take, List.length_drop, List.length_map]; omega)) (fun v24 w12 h66 c19 c20 => ?_)
  have z13 := c19.size
  refine ops_nil ?_
  refine nx_any trivial ?_
  refine any_takes [15, 16, 17] (fuel' := 0) (listed' := (bm 18 262143)) (l' := [(0, v), (2, v24), (3, v22), (4, .bool true), (5, .int .i64 ((i : Int)))]) panK_FB (by kernel_rfl) (by kernel_rfl) (by kernel_rfl) ?_
  refine any_done (by kernel_rfl) ?_
  refine nx_seq ?_
  refine at_ret (rs := [.tmp 2, .tmp 3, .tmp 4]) (vs := [v24, v22, .bool true]) rfl (by kernel_rfl) ?_
  have h67 := h62.keep0 c19 (by omega)
  have hca : CutAt b i (valN (b.take i)) := ⟨by have := List.length_pos_iff.2 hns.1.1; rw [List.length_take] at this; omega, by omega, by omega, fun j hj => by have := hns.1.2.1 j (by rw [List.length_take]; omega); rwa [bAt_take hj] at this, by omega, fun h => by have := hns.1.2.2 (by rw [bAt_take (by have := List.length_pos_iff.2 hns.1.1; rw [List.length_take] at this; omega)]; exact h); rw [List.length_take] at this; omega, rfl, by omega, by rw [← show i + 1 + n1.toNat = i + 1 + valN (b.take i) by omega]; omega⟩
  have hcr := hca.cut
  rw [List.nil_append, show ((i + 1 + n1.toNat) - ((i) + 1)) = valN (b.take i) by omega] at h66
  rw [show (((((i : Int)) + 2) + n1).toNat) = i + valN (b.take i) + 2 by omega] at h67
  exact ⟨_, rfl, (((((Chg.refl [] w).step0 h1 (by omega)).step0 c1 (by omega)).step0 c2 (by omega)).step0 c19 (by omega)), .inl ⟨_, _, _, _, rfl, hcr, h66.down (by omega), h67⟩⟩
  refine ops_add (a := ((i : Int)) + 2) (b := n1) (kd := .i64) (by kernel_rfl) (by kernel_rfl) (by kernel_rfl) (by kernel_rfl) (show (-9223372036854775808 : Int) ≤ (((i : Int)) + 2) + n1 by omega) (show (((i : Int)) + 2) + n1 ≤ (9223372036854775807 : Int) by omega) ?_
  refine ops_nil ?_
  refine nx_any trivial ?_
  have h68 := h14.keep0 c2 (by omega)
  refine any_from (q := 14) (listed' := (bm 18 32303)) (e := 5) (i := (((i : Int)) + 2) + n1) (kd := .i64) (((((i : Int)) + 2) + n1).toNat) panK_FB (by kernel_rfl) rfl (by kernel_rfl) (by kernel_rfl) (by kernel_rfl) (by kernel_rfl) (by kernel_rfl) (by kernel_rfl) (by kernel_rfl) (by kernel_rfl) h68 (by first | omega | (simp only [List.length_append, List.length_cons, List.length_nil, List.length_take, List.length_drop, List.length_map]; omega)) (by first | omega | (simp only [List.length_append, List.length_cons, List.length_nil, List.length_take, List.length_drop, List.length_map]; omega)) (fun v25 h69 => ?_)
  replace h69 := bs_from h69
  refine any_1 4 (bm 18 32319) (by kernel_rfl) rfl (by kernel_rfl) ?_
  refine ops_add (a := (i : Int)) (b := 1) (kd := .i64) (by kernel_rfl) (by kernel_rfl) (by kernel_rfl) (by kernel_rfl) (show (-9223372036854775808 : Int) ≤ ((i : Int)) + 1 by omega) (show ((i : Int)) + 1 ≤ (9223372036854775807 : Int) by omega) ?_
  refine ops_nil ?_
  refine nx_any trivial ?_
  refine any_1 6 (bm 18 32383) (by kernel_rfl) rfl (by kernel_rfl) ?_
  refine ops_add (a := ((i : Int)) + 1) (b := n1) (kd := .i64) (by kernel_rfl) (by kernel_rfl) (by kernel_rfl) (by kernel_rfl) (show (-9223372036854775808 : Int) ≤ (((i : Int)) + 1) + n1 by omega) (show (((i : Int)) + 1) + n1 ≤ (9223372036854775807 : Int) by omega) ?_
  refine ops_nil ?_
  refine nx_any trivial ?_
  refine any_part (q := 7) (listed' := (bm 18 32511)) (e := 5) (i := ((i : Int)) + 1) (kd := .i64) (i' := (((i : Int)) + 1) + n1) (kd' := .i64) ((i) + 1) (i + 1 + n1.toNat) panK_FB (by kernel_rfl) rfl (by kernel_rfl) (by kernel_rfl) (by kernel_rfl) (by kernel_rfl) (by kernel_rfl) (by kernel_rfl) (by kernel_rfl) (by kernel_rfl) (by kernel_rfl) h68 (by first | omega | (simp only [List.length_append, List.length_cons, List.length_nil, List.length_take, List.length_drop, List.length_map]; omega)) (by first | omega | (simp only [List.length_append, List.length_cons, List.length_nil, List.length_take, List.length_drop, List.length_map]; omega)) (by first | omega | (simp only [List.length_append, List.length_cons, List.length_nil, List.length_take, List.length_drop, List.length_map]; omega)) (by first | omega | (simp only [List.length_append, List.length_cons, List.length_nil, List.length_take, List.length_drop, List.length_map]; omega)) (fun v26 h71 => ?_)
  replace h71 := bs_part h71 (by omega)
  refine any_1 8 (bm 18 32767) (by kernel_rfl) rfl (by kernel_rfl) ?_
  refine ops_appendB (e := 5) (by_ := 1) (l1 := []) (l2 := ((b.drop ((i) + 1)).take ((i + 1 + n1.toNat) - ((i) + 1)))) (by kernel_rfl) (by kernel_rfl) (by kernel_rfl) (by kernel_rfl) (by kernel_rfl) (by kernel_rfl) (by kernel_rfl) (Own.nil w3 w3.heap.size 1 (Nat.le_refl _)) h71 (by first | omega | (simp only [List.length_append, List.length_cons, List.length_nil, List.length_take, List.length_drop, List.length_map]; omega)) (fun v27 w13 h73 c21 c22 => ?_)
  have z14 := c21.size
  refine ops_nil ?_
  refine nx_any trivial ?_
  refine any_takes [15, 16, 17] (fuel' := 0) (listed' := (bm 18 262143)) (l' := [(0, v), (2, v27), (3, v25), (4, .bool true), (5, .int .i64 ((i : Int)))]) panK_FB (by kernel_rfl) (by kernel_rfl) (by kernel_rfl) ?_
  refine any_done (by kernel_rfl) ?_
  refine nx_seq ?_
  refine at_ret (rs := [.tmp 2, .tmp 3, .tmp 4]) (vs := [v27, v25, .bool true]) rfl (by kernel_rfl) ?_
  have h74 := h69.keep0 c21 (by omega)
  have hca : CutAt b i (valN (b.take i)) := ⟨by have := List.length_pos_iff.2 hns.1.1; rw [List.length_take] at this; omega, by omega, by omega, fun j hj => by have := hns.1.2.1 j (by rw [List.length_take]; omega); rwa [bAt_take hj] at this, by omega, fun h => by have := hns.1.2.2 (by rw [bAt_take (by have := List.length_pos_iff.2 hns.1.1; rw [List.length_take] at this; omega)]; exact h); rw [List.length_take] at this; omega, rfl, by omega, by rw [← show i + 1 + n1.toNat = i + 1 + valN (b.take i) by omega]; omega⟩
  have hcr := hca.cut
  rw [List.nil_append, show ((i + 1 + n1.toNat) - ((i) + 1)) = valN (b.take i) by omega] at h73
  rw [show (((((i : Int)) + 2) + n1).toNat) = i + valN (b.take i) + 2 by omega] at h74
  exact ⟨_, rfl, (((((Chg.refl [] w).step0 h1 (by omega)).step0 c1 (by omega)).step0 c2 (by omega)).step0 c21 (by omega)), .inl ⟨_, _, _, _, rfl, hcr, h73.down (by omega), h74⟩⟩
  refine ops_add (a := (i : Int)) (b := 1) (kd := .i64) (by kernel_rfl) (by kernel_rfl) (by kernel_rfl) (by kernel_rfl) (show (-9223372036854775808 : Int) ≤ ((i : Int)) + 1 by omega) (show ((i : Int)) + 1 ≤ (9223372036854775807 : Int) by omega) ?_
  refine ops_nil ?_
  refine nx_any trivial ?_
  refine any_3 2 (bm 18 5695) 6 (bm 18 5755) 11 (bm 18 7739) (by kernel_rfl) rfl (by kernel_rfl) rfl (by kernel_rfl) rfl (by kernel_rfl) ?_ ?_ ?_
  refine ops_add (a := (i : Int)) (b := 1) (kd := .i64) (by kernel_rfl) (by kernel_rfl) (by kernel_rfl) (by kernel_rfl) (show (-9223372036854775808 : Int) ≤ ((i : Int)) + 1 by omega) (show ((i : Int)) + 1 ≤ (9223372036854775807 : Int) by omega) ?_
  refine ops_nil ?_
  refine nx_any trivial ?_
  refine any_2 6 (bm 18 5759) 11 (bm 18 7743) (by kernel_rfl) rfl (by kernel_rfl) rfl (by kernel_rfl) ?_ ?_
  refine ops_add (a := ((i : Int)) + 1) (b := n1) (kd := .i64) (by kernel_rfl) (by kernel_rfl) (by kernel_rfl) (by kernel_rfl) (show (-9223372036854775808 : Int) ≤ (((i : Int)) + 1) + n1 by omega) (show (((i : Int)) + 1) + n1 ≤ (9223372036854775807 : Int) by omega) ?_
  refine ops_nil ?_
  refine nx_any trivial ?_
  have h75 := h14.keep0 c2 (by omega)
  refine any_part (q := 7) (listed' := (bm 18 5887)) (e := 5) (i := ((i : Int)) + 1) (kd := .i64) (i' := (((i : Int)) + 1) + n1) (kd' := .i64) ((i) + 1) (i + 1 + n1.toNat) panK_FB (by kernel_rfl) rfl (by kernel_rfl) (by kernel_rfl) (by kernel_rfl) (by kernel_rfl) (by kernel_rfl) (by kernel_rfl) (by kernel_rfl) (by kernel_rfl) (by kernel_rfl) h75 (by first | omega | (simp only [List.length_append, List.length_cons, List.length_nil, List.length_take, List.length_drop, List.length_map]; omega)) (by first | omega | (simp only [List.length_append, List.length_cons, List.length_nil, List.length_take, List.length_drop, List.length_map]; omega)) (by first | omega | (simp only [List.length_append, List.length_cons, List.length_nil, List.length_take, List.length_drop, List.length_map]; omega)) (by first | omega | (simp only [List.length_append, List.length_cons, List.length_nil, List.length_take, List.length_drop, List.length_map]; omega)) (fun v28 h76 => ?_)
  replace h76 := bs_part h76 (by omega)
  refine any_2 8 (bm 18 6143) 11 (bm 18 7935) (by kernel_rfl) rfl (by kernel_rfl) rfl (by kernel_rfl) ?_ ?_
  refine ops_appendB (e := 5) (by_ := 1) (l1 := []) (l2 := ((b.drop ((i) + 1)).take ((i + 1 + n1.toNat) - ((i) + 1)))) (by kernel_rfl) (by kernel_rfl) (by kernel_rfl) (by kernel_rfl) (by kernel_rfl) (by kernel_rfl) (by kernel_rfl) (Own.nil w3 w3.heap.size 1 (Nat.le_refl _)) h76 (by first | omega | (simp only [List.length_append, List.length_cons, List.length_nil, List.length_take, List.length_drop, List.length_map]; omega)) (fun v29 w14 h78 c23 c24 => ?_)
  have z15 := c23.size
  refine ops_nil ?_
  refine nx_any trivial ?_
  refine any_takes [15] (fuel' := 5) (listed' := (bm 18 38911)) (l' := [(0, v), (2, v29), (3, .slice none 0 0), (4, .bool false), (5, .int .i64 ((i : Int))), (65, v), (66, .int .i64 ((i : Int))), (68, .int .i64 n1)]) panK_FB (by kernel_rfl) (by kernel_rfl) (by kernel_rfl) ?_
  refine any_1 11 (bm 18 40959) (by kernel_rfl) rfl (by kernel_rfl) ?_
  refine ops_add (a := (i : Int)) (b := 2) (kd := .i64) (by kernel_rfl) (by kernel_rfl) (by kernel_rfl) (by kernel_rfl) (show (-9223372036854775808 : Int) ≤ ((i : Int)) + 2 by omega) (show ((i : Int)) + 2 ≤ (9223372036854775807 : Int) by omega) ?_
  refine ops_nil ?_
  refine nx_any trivial ?_
  refine any_1 13 (bm 18 49151) (by kernel_rfl) rfl (by kernel_rfl) ?_
  refine ops_add (a := ((i : Int)) + 2) (b := n1) (kd := .i64) (by kernel_rfl) (by kernel_rfl) (by kernel_rfl) (by kernel_rfl) (show (-9223372036854775808 : Int) ≤ (((i : Int)) + 2) + n1 by omega) (show (((i : Int)) + 2) + n1 ≤ (9223372036854775807 : Int) by omega) ?_
  refine ops_nil ?_
  refine nx_any trivial ?_
  have h79 := h75.keep0 c23 (by omega)
  refine any_from (q := 14) (listed' := (bm 18 65535)) (e := 5) (i := (((i : Int)) + 2) + n1) (kd := .i64) (((((i : Int)) + 2) + n1).toNat) panK_FB (by kernel_rfl) rfl (by kernel_rfl) (by kernel_rfl) (by kernel_rfl) (by kernel_rfl) (by kernel_rfl) (by kernel_rfl) (by kernel_rfl) (by kernel_rfl) h79 (by first | omega | (simp only [List.length_append, List.length_cons, List.length_nil, List.length_take, List.length_drop, List.length_map]; omega)) (by first | omega | (simp only [List.length_append, List.length_cons, List.length_nil, List.length_take, List.length_drop, List.length_map]; omega)) (fun v30 h80 => ?_)
  replace h80 := bs_from h80
  refine any_takes [16, 17] (fuel' := 0) (listed' := (bm 18 262143)) (l' := [(0, v), (2, v29), (3, v30), (4, .bool true), (5, .int .i64 ((i : Int)))]) panK_FB (by kernel_rfl) (by kernel_rfl) (by kernel_rfl) ?_
  refine any_done (by kernel_rfl) ?_
  refine nx_seq ?_
  refine at_ret (rs := [.tmp 2, .tmp 3, .tmp 4]) (vs := [v29, v30, .bool true]) rfl (by kernel_rfl) ?_
  have hca : CutAt b i (valN (b.take i)) := ⟨by have := List.length_pos_iff.2 hns.1.1; rw [List.length_take] at this; omega, by omega, by omega, fun j hj => by have := hns.1.2.1 j (by rw [List.length_take]; omega); rwa [bAt_take hj] at this, by omega, fun h => by have := hns.1.2.2 (by rw [bAt_take (by have := List.length_pos_iff.2 hns.1.1; rw [List.length_take] at this; omega)]; exact h); rw [List.length_take] at this; omega, rfl, by omega, by rw [← show i + 1 + n1.toNat = i + 1 + valN (b.take i) by omega]; omega⟩
  have hcr := hca.cut
  rw [List.nil_append, show ((i + 1 + n1.toNat) - ((i) + 1)) = valN (b.take i) by omega] at h78
  rw [show (((((i : Int)) + 2) + n1).toNat) = i + valN (b.take i) + 2 by omega] at h80
  exact ⟨_, rfl, (((((Chg.refl [] w).step0 h1 (by omega)).step0 c1 (by omega)).step0 c2 (by omega)).step0 c23 (by omega)), .inl ⟨_, _, _, _, rfl, hcr, h78.down (by omega), h80⟩⟩
  refine ops_add (a := (i : Int)) (b := 2) (kd := .i64) (by kernel_rfl) (by kernel_rfl) (by kernel_rfl) (by kernel_rfl) (show (-9223372036854775808 : Int) ≤ ((i : Int)) + 2 by omega) (show ((i : Int)) + 2 ≤ (9223372036854775807 : Int) by omega) ?_
  refine ops_nil ?_
  refine nx_any trivial ?_
  refine any_2 8 (bm 18 8191) 13 (bm 18 16127) (by kernel_rfl) rfl (by kernel_rfl) rfl (by kernel_rfl) ?_ ?_
  refine ops_appendB (e := 5) (by_ := 1) (l1 := []) (l2 := ((b.drop ((i) + 1)).take ((i + 1 + n1.toNat) - ((i) + 1)))) (by kernel_rfl) (by kernel_rfl) (by kernel_rfl) (by kernel_rfl) (by kernel_rfl) (by kernel_rfl) (by kernel_rfl) (Own.nil w3 w3.heap.size 1 (Nat.le_refl _)) h76 (by first | omega | (simp only [List.length_append, List.length_cons, List.length_nil, List.length_take, List.length_drop, List.length_map]; omega)) (fun v31 w15 h82 c25 c26 => ?_)
  have z16 := c25.size
  refine ops_nil ?_
  refine nx_any trivial ?_
  refine any_takes [15] (fuel' := 4) (listed' := (bm 18 40959)) (l' := [(0, v), (2, v31), (3, .slice none 0 0), (4, .bool false), (5, .int .i64 ((i : Int))), (65, v), (67, .int .i64 (((i : Int)) + 2)), (68, .int .i64 n1)]) panK_FB (by kernel_rfl) (by kernel_rfl) (by kernel_rfl) ?_
  refine any_1 13 (bm 18 49151) (by kernel_rfl) rfl (by kernel_rfl) ?_
  refine ops_add (a := ((i : Int)) + 2) (b := n1) (kd := .i64) (by kernel_rfl) (by kernel_rfl) (by kernel_rfl) (by kernel_rfl) (show (-9223372036854775808 : Int) ≤ (((i : Int)) + 2) + n1 by omega) (show (((i : Int)) + 2) + n1 ≤ (9223372036854775807 : Int) by omega) ?_
  refine ops_nil ?_
  refine nx_any trivial ?_
  have h83 := h75.keep0 c25 (by omega)
  refine any_from (q := 14) (listed' := (bm 18 65535)) (e := 5) (i := (((i : Int)) + 2) + n1) (kd := .i64) (((((i : Int)) + 2) + n1).toNat) panK_FB (by kernel_rfl) rfl (by kernel_rfl) (by kernel_rfl) (by kernel_rfl) (by kernel_rfl) (by kernel_rfl) (by kernel_rfl) (by kernel_rfl) (by kernel_rfl) h83 (by first | omega | (simp only [List.length_append, List.length_cons, List.length_nil, List.length_take, List.length_drop, List.length_map]; omega)) (by first | omega | (simp only [List.length_append, List.length_cons, List.length_nil, List.length_take, List.length_drop, List.length_map]; omega)) (fun v32 h84 => ?_)
  replace h84 := bs_from h84
  refine any_takes [16, 17] (fuel' := 0) (listed' := (bm 18 262143)) (l' := [(0, v), (2, v31), (3, v32), (4, .bool true), (5, .int .i64 ((i : Int)))]) panK_FB (by kernel_rfl) (by kernel_rfl) (by kernel_rfl) ?_
  refine any_done (by kernel_rfl) ?_
  refine nx_seq ?_
  refine at_ret (rs := [.tmp 2, .tmp 3, .tmp 4]) (vs := [v31, v32, .bool true]) rfl (by kernel_rfl) ?_
  have hca : CutAt b i (valN (b.take i)) := ⟨by have := List.length_pos_iff.2 hns.1.1; rw [List.length_take] at this; omega, by omega, by omega, fun j hj => by have := hns.1.2.1 j (by rw [List.length_take]; omega); rwa [bAt_take hj] at this, by omega, fun h => by have := hns.1.2.2 (by rw [bAt_take (by have := List.length_pos_iff.2 hns.1.1; rw [List.length_take] at this; omega)]; exact h); rw [List.length_take] at this; omega, rfl, by omega, by rw [← show i + 1 + n1.toNat = i + 1 + valN (b.take i) by omega]; omega⟩
  have hcr := hca.cut
  rw [List.nil_append, show ((i + 1 + n1.toNat) - ((i) + 1)) = valN (b.take i) by omega] at h82
  rw [show (((((i : Int)) + 2) + n1).toNat) = i + valN (b.take i) + 2 by omega] at h84
  exact ⟨_, rfl, (((((Chg.refl [] w).step0 h1 (by omega)).step0 c1 (by omega)).step0 c2 (by omega)).step0 c25 (by omega)), .inl ⟨_, _, _, _, rfl, hcr, h82.down (by omega), h84⟩⟩
  refine ops_add (a := ((i : Int)) + 2) (b := n1) (kd := .i64) (by kernel_rfl) (by kernel_rfl) (by kernel_rfl) (by kernel_rfl) (show (-9223372036854775808 : Int) ≤ (((i : Int)) + 2) + n1 by omega) (show (((i : Int)) + 2) + n1 ≤ (9223372036854775807 : Int) by omega) ?_
  refine ops_nil ?_
  refine nx_any trivial ?_
  refine any_from (q := 14) (listed' := (bm 18 32511)) (e := 5) (i := (((i : Int)) + 2) + n1) (kd := .i64) (((((i : Int)) + 2) + n1).toNat) panK_FB (by kernel_rfl) rfl (by kernel_rfl) (by kernel_rfl) (by kernel_rfl) (by kernel_rfl) (by kernel_rfl) (by kernel_rfl) (by kernel_rfl) (by kernel_rfl) h75 (by first | omega | (simp only [List.length_append, List.length_cons, List.length_nil, List.length_take, List.length_drop, List.length_map]; omega)) (by first | omega | (simp only [List.length_append, List.length_cons, List.length_nil, List.length_take, List.length_drop, List.length_map]; omega)) (fun v33 h86 => ?_)
  replace h86 := bs_from h86
  refine any_1 8 (bm 18 32767) (by kernel_rfl) rfl (by kernel_rfl) ?_
  refine ops_appendB (e := 5) (by_ := 1) (l1 := []) (l2 := ((b.drop ((i) + 1)).take ((i + 1 + n1.toNat) - ((i) + 1)))) (by kernel_rfl) (by kernel_rfl) (by kernel_rfl) (by kernel_rfl) (by kernel_rfl) (by kernel_rfl) (by kernel_rfl) (Own.nil w3 w3.heap.size 1 (Nat.le_refl _)) h76 (by first | omega | (simp only [List.length_append, List.length_cons, List.length_nil, List.length_take, List.length_drop, List.length_map]; omega)) (fun v34 w16 h88 c27 c28 => ?_)
  have z17 := c27.size
  refine ops_nil ?_
  refine nx_any trivial ?_
  refine any_takes [15, 16, 17] (fuel' := 0) (listed' := (bm 18 262143)) (l' := [(0, v), (2, v34), (3, v33), (4, .bool true), (5, .int .i64 ((i : Int)))]) panK_FB (by kernel_rfl) (by kernel_rfl) (by kernel_rfl) ?_
  refine any_done (by kernel_rfl) ?_
  refine nx_seq ?_
  refine at_ret (rs := [.tmp 2, .tmp 3, .tmp 4]) (vs := [v34, v33, .bool true]) rfl (by kernel_rfl) ?_
  have h89 := h86.keep0 c27 (by omega)
  have hca : CutAt b i (valN (b.take i)) := ⟨by have := List.length_pos_iff.2 hns.1.1; rw [List.length_take] at this; omega, by omega, by omega, fun j hj => by have := hns.1.2.1 j (by rw [List.length_take]; omega); rwa [bAt_take hj] at this, by omega, fun h => by have := hns.1.2.2 (by rw [bAt_take (by have := List.length_pos_iff.2 hns.1.1; rw [List.length_take] at this; omega)]; exact h); rw [List.length_take] at this; omega, rfl, by omega, by rw [← show i + 1 + n1.toNat = i + 1 + valN (b.take i) by omega]; omega⟩
  have hcr := hca.cut
  rw [List.nil_append, show ((i + 1 + n1.toNat) - ((i) + 1)) = valN (b.take i) by omega] at h88
  rw [show (((((i : Int)) + 2) + n1).toNat) = i + valN (b.take i) + 2 by omega] at h89
  exact ⟨_, rfl, (((((Chg.refl [] w).step0 h1 (by omega)).step0 c1 (by omega)).step0 c2 (by omega)).step0 c27 (by omega)), .inl ⟨_, _, _, _, rfl, hcr, h88.down (by omega), h89⟩⟩
  refine ops_add (a := (i : Int)) (b := 2) (kd := .i64) (by kernel_rfl) (by kernel_rfl) (by kernel_rfl) (by kernel_rfl) (show (-9223372036854775808 : Int) ≤ ((i : Int)) + 2 by omega) (show ((i : Int)) + 2 ≤ (9223372036854775807 : Int) by omega) ?_
  refine ops_nil ?_
  refine nx_any trivial ?_
  refine any_2 6 (bm 18 7807) 13 (bm 18 15935) (by kernel_rfl) rfl (by kernel_rfl) rfl (by kernel_rfl) ?_ ?_
  refine ops_add (a := ((i : Int)) + 1) (b := n1) (kd := .i64) (by kernel_rfl) (by kernel_rfl) (by kernel_rfl) (by kernel_rfl) (show (-9223372036854775808 : Int) ≤ (((i : Int)) + 1) + n1 by omega) (show (((i : Int)) + 1) + n1 ≤ (9223372036854775807 : Int) by omega) ?_
  refine ops_nil ?_
  refine nx_any trivial ?_
  have h90 := h14.keep0 c2 (by omega)
  refine any_part (q := 7) (listed' := (bm 18 7935)) (e := 5) (i := ((i : Int)) + 1) (kd := .i64) (i' := (((i : Int)) + 1) + n1) (kd' := .i64) ((i) + 1) (i + 1 + n1.toNat) panK_FB (by kernel_rfl) rfl (by kernel_rfl) (by kernel_rfl) (by kernel_rfl) (by kernel_rfl) (by kernel_rfl) (by kernel_rfl) (by kernel_rfl) (by kernel_rfl) (by kernel_rfl) h90 (by first | omega | (simp only [List.length_append, List.length_cons, List.length_nil, List.length_take, List.length_drop, List.length_map]; omega)) (by first | omega | (simp only [List.length_append, List.length_cons, List.length_nil, List.length_take, List.length_drop, List.length_map]; omega)) (by first | omega | (simp only [List.length_append, List.length_cons, List.length_nil, List.length_take, List.length_drop, List.length_map]; omega)) (by first | omega | (simp only [List.length_append, List.length_cons, List.length_nil, List.length_take, List.length_drop, List.length_map]; omega)) (fun v35 h91 => ?_)
  replace h91 := bs_part h91 (by omega)
  refine any_2 8 (bm 18 8191) 13 (bm 18 16127) (by kernel_rfl) rfl (by kernel_rfl) rfl (by kernel_rfl) ?_ ?_
  refine ops_appendB (e := 5) (by_ := 1) (l1 := []) (l2 := ((b.drop ((i) + 1)).take ((i + 1 + n1.toNat) - ((i) + 1)))) (by kernel_rfl) (by kernel_rfl) (by kernel_rfl) (by kernel_rfl) (by kernel_rfl) (by kernel_rfl) (by kernel_rfl) (Own.nil w3 w3.heap.size 1 (Nat.le_refl _)) h91 (by first | omega | (simp only [List.length_append, List.length_cons, List.length_nil, List.length_take, List.length_drop, List.length_map]; omega)) (fun v36 w17 h93 c29 c30 => ?_)
  have z18 := c29.size
  refine ops_nil ?_
  refine nx_any trivial ?_
  refine any_takes [15] (fuel' := 4) (listed' := (bm 18 40959)) (l' := [(0, v), (2, v36), (3, .slice none 0 0), (4, .bool false), (5, .int .i64 ((i : Int))), (65, v), (67, .int .i64 (((i : Int)) + 2)), (68, .int .i64 n1)]) panK_FB (by kernel_rfl) (by kernel_rfl) (by kernel_rfl) ?_
  refine any_1 13 (bm 18 49151) (by kernel_rfl) rfl (by kernel_rfl) ?_
  refine ops_add (a := ((i : Int)) + 2) (b := n1) (kd := .i64) (by kernel_rfl) (by kernel_rfl) (by kernel_rfl) (by kernel_rfl) (show (-9223372036854775808 : Int) ≤ (((i : Int)) + 2) + n1 by omega) (show (((i : Int)) + 2) + n1 ≤ (9223372036854775807 : Int) by omega) ?_
  refine ops_nil ?_
  refine nx_any trivial ?_
  have h94 := h90.keep0 c29 (by omega)
  refine any_from (q := 14) (listed' := (bm 18 65535)) (e := 5) (i := (((i : Int)) + 2) + n1) (kd := .i64) (((((i : Int)) + 2) + n1).toNat) panK_FB (by kernel_rfl) rfl (by kernel_rfl) (by kernel_rfl) (by kernel_rfl) (by kernel_rfl) (by kernel_rfl) (by kernel_rfl) (by kernel_rfl) (by kernel_rfl) h94 (by first | omega | (simp only [List.length_append, List.length_cons, List.length_nil, List.length_take, List.length_drop, List.length_map]; omega)) (by first | omega | (simp only [List.length_append, List.length_cons, List.length_nil, List.length_take, List.length_drop, List.length_map]; omega)) (fun v37 h95 => ?_)
  replace h95 := bs_from h95
  refine any_takes [16, 17] (fuel' := 0) (listed' := (bm 18 262143)) (l' := [(0, v), (2, v36), (3, v37), (4, .bool true), (5, .int .i64 ((i : Int)))]) panK_FB (by kernel_rfl) (by kernel_rfl) (by kernel_rfl) ?_
  refine any_done (by kernel_rfl) ?_
  refine nx_seq ?_
  refine at_ret (rs := [.tmp 2, .tmp 3, .tmp 4]) (vs := [v36, v37, .bool true]) rfl (by kernel_rfl) ?_
  have hca : CutAt b i (valN (b.take i)) := ⟨by have := List.length_pos_iff.2 hns.1.1; rw [List.length_take] at this; omega, by omega, by omega, fun j hj => by have := hns.1.2.1 j (by rw [List.length_take]; omega); rwa [bAt_take hj] at this, by omega, fun h => by have := hns.1.2.2 (by rw [bAt_take (by have := List.length_pos_iff.2 hns.1.1; rw [List.length_take] at this; omega)]; exact h); rw [List.length_take] at this; omega, rfl, by omega, by rw [← show i + 1 + n1.toNat = i + 1 + valN (b.take i) by omega]; omega⟩
  have hcr := hca.cut
  rw [List.nil_append, show ((i + 1 + n1.toNat) - ((i) + 1)) = valN (b.take i) by omega] at h93
  rw [show (((((i : Int)) + 2) + n1).toNat) = i + valN (b.take i) + 2 by omega] at h95
  exact ⟨_, rfl, (((((Chg.refl [] w).step0 h1 (by omega)).step0 c1 (by omega)).step0 c2 (by omega)).step0 c29 (by omega)), .inl ⟨_, _, _, _, rfl, hcr, h93.down (by omega), h95⟩⟩
  refine ops_add (a := ((i : Int)) + 2) (b := n1) (kd := .i64) (by kernel_rfl) (by kernel_rfl) (by kernel_rfl) (by kernel_rfl) (show (-9223372036854775808 : Int) ≤ (((i : Int)) + 2) + n1 by omega) (show (((i : Int)) + 2) + n1 ≤ (9223372036854775807 : Int) by omega) ?_
  refine ops_nil ?_
  refine nx_any trivial ?_
  refine any_from (q := 14) (listed' := (bm 18 32511)) (e := 5) (i := (((i : Int)) + 2) + n1) (kd := .i64) (((((i : Int)) + 2) + n1).toNat) panK_FB (by kernel_rfl) rfl (by kernel_rfl) (by kernel_rfl) (by kernel_rfl) (by kernel_rfl) (by kernel_rfl) (by kernel_rfl) (by kernel_rfl) (by kernel_rfl) h90 (by first | omega | (simp only [List.length_append, List.length_cons, List.length_nil, List.length_take, List.length_drop, List.length_map]; omega)) (by first | omega | (simp only [List.length_append, List.length_cons, List.length_nil, List.length_take, List.length_drop, List.length_map]; omega)) (fun v38 h97 => ?_)
  replace h97 := bs_from h97
  refine any_1 8 (bm 18 32767) (by kernel_rfl) rfl (by kernel_rfl) ?_
  refine ops_appendB (e := 5) (by_ := 1) (l1 := []) (l2 := ((b.drop ((i) + 1)).take ((i + 1 + n1.toNat) - ((i) + 1)))) (by kernel_rfl) (by kernel_rfl) (by kernel_rfl) (by kernel_rfl) (by kernel_rfl) (by kernel_rfl) (by kernel_rfl) (Own.nil w3 w3.heap.size 1 (Nat.le_refl _)) h91 (by first | omega | (simp only [List.length_append, List.length_cons, List.length_nil, List.length_take, List.length_drop, List.length_map]; omega)) (fun v39 w18 h99 c31 c32 => ?_)
  have z19 := c31.size
  refine ops_nil ?_
  refine nx_any trivial ?_
  refine any_takes [15, 16, 17] (fuel' := 0) (listed' := (bm 18 262143)) (l' := [(0, v), (2, v39), (3, v38), (4, .bool true), (5, .int .i64 ((i : Int)))]) panK_FB (by kernel_rfl) (by kernel_rfl) (by kernel_rfl) ?_
  refine any_done (by kernel_rfl) ?_
  refine nx_seq ?_
  refine at_ret (rs := [.tmp 2, .tmp 3, .tmp 4]) (vs := [v39, v38, .bool true]) rfl (by kernel_rfl) ?_
  have h100 := h97.keep0 c31 (by omega)
  have hca : CutAt b i (valN (b.take i)) := ⟨by have := List.length_pos_iff.2 hns.1.1; rw [List.length_take] at this; omega, by omega, by omega, fun j hj => by have := hns.1.2.1 j (by rw [List.length_take]; omega); rwa [bAt_take hj] at this, by omega, fun h => by have := hns.1.2.2 (by rw [bAt_take (by have := List.length_pos_iff.2 hns.1.1; rw [List.length_take] at this; omega)]; exact h); rw [List.length_take] at this; omega, rfl, by omega, by rw [← show i + 1 + n1.toNat = i + 1 + valN (b.take i) by omega]; omega⟩
  have hcr := hca.cut
  rw [List.nil_append, show ((i + 1 + n1.toNat) - ((i) + 1)) = valN (b.take i) by omega] at h99
  rw [show (((((i : Int)) + 2) + n1).toNat) = i + valN (b.take i) + 2 by omega] at h100
  exact ⟨_, rfl, (((((Chg.refl [] w).step0 h1 (by omega)).step0 c1 (by omega)).step0 c2 (by omega)).step0 c31 (by omega)), .inl ⟨_, _, _, _, rfl, hcr, h99.down (by omega), h100⟩⟩
  refine ops_add (a := ((i : Int)) + 2) (b := n1) (kd := .i64) (by kernel_rfl) (by kernel_rfl) (by kernel_rfl) (by kernel_rfl) (show (-9223372036854775808 : Int) ≤ (((i : Int)) + 2) + n1 by omega) (show (((i : Int)) + 2) + n1 ≤ (9223372036854775807 : Int) by omega) ?_
  refine ops_nil ?_
  refine nx_any trivial ?_
  have h101 := h14.keep0 c2 (by omega)
  refine any_from (q := 14) (listed' := (bm 18 32319)) (e := 5) (i := (((i : Int)) + 2) + n1) (kd := .i64) (((((i : Int)) + 2) + n1).toNat) panK_FB (by kernel_rfl) rfl (by kernel_rfl) (by kernel_rfl) (by kernel_rfl) (by kernel_rfl) (by kernel_rfl) (by kernel_rfl) (by kernel_rfl) (by kernel_rfl) h101 (by first | omega | (simp only [List.length_append, List.length_cons, List.length_nil, List.length_take, List.length_drop, List.length_map]; omega)) (by first | omega | (simp only [List.length_append, List.length_cons, List.length_nil, List.length_take, List.length_drop, List.length_map]; omega)) (fun v40 h102 => ?_)
  replace h102 := bs_from h102
  refine any_1 6 (bm 18 32383) (by kernel_rfl) rfl (by kernel_rfl) ?_
  refine ops_add (a := ((i : Int)) + 1) (b := n1) (kd := .i64) (by kernel_rfl) (by kernel_rfl) (by kernel_rfl) (by kernel_rfl) (show (-9223372036854775808 : Int) ≤ (((i : Int)) + 1) + n1 by omega) (show (((i : Int)) + 1) + n1 ≤ (9223372036854775807 : Int) by omega) ?_
  refine ops_nil ?_
  refine nx_any trivial ?_
  refine any_part (q := 7) (listed' := (bm 18 32511)) (e := 5) (i := ((i : Int)) + 1) (kd := .i64) (i' := (((i : Int)) + 1) + n1) (kd' := .i64) ((i) + 1) (i + 1 + n1.toNat) panK_FB (by kernel_rfl) rfl (by kernel_rfl) (by kernel_rfl) (by kernel_rfl) (by kernel_rfl) (by kernel_rfl) (by kernel_rfl) (by kernel_rfl) (by kernel_rfl) (by kernel_rfl) h101 (by first | omega | (simp only [List.length_append, List.length_cons, List.length_nil, List.length_take, List.length_drop, List.length_map]; omega)) (by first | omega | (simp only [List.length_append, List.length_cons, List.length_nil, List.length_take, List.length_drop, List.length_map]; omega)) (by first | omega | (simp only [List.length_append, List.length_cons, List.length_nil, List.length_take, List.length_drop, List.length_map]; omega)) (by first | omega | (simp only [List.length_append, List.length_cons, List.length_nil, List.length_take, List.length_drop, List.length_map]; omega)) (fun v41 h104 => ?_)
  replace h104 := bs_part h104 (by omega)
  refine any_1 8 (bm 18 32767) (by kernel_rfl) rfl (by kernel_rfl) ?_
  refine ops_appendB (e := 5) (by_ := 1) (l1 := []) (l2 := ((b.drop ((i) + 1)).take ((i + 1 + n1.toNat) - ((i) + 1)))) (by kernel_rfl) (by kernel_rfl) (by kernel_rfl) (by kernel_rfl) (by kernel_rfl) (by kernel_rfl) (by kernel_rfl) (Own.nil w3 w3.heap.size 1 (Nat.le_refl _)) h104 (by first | omega | (simp only [List.length_append, List.length_cons, List.length_nil, List.length_take, List.length_drop, List.length_map]; omega)) (fun v42 w19 h106 c33 c34 => ?_)
  have z20 := c33.size
  refine ops_nil ?_
  refine nx_any trivial ?_
  refine any_takes [15, 16, 17] (fuel' := 0) (listed' := (bm 18 262143)) (l' := [(0, v), (2, v42), (3, v40), (4, .bool true), (5, .int .i64 ((i : Int)))]) panK_FB (by kernel_rfl) (by kernel_rfl) (by kernel_rfl) ?_
  refine any_done (by kernel_rfl) ?_
  refine nx_seq ?_
  refine at_ret (rs := [.tmp 2, .tmp 3, .tmp 4]) (vs := [v42, v40, .bool true]) rfl (by kernel_rfl) ?_
  have h107 := h102.keep0 c33 (by omega)
  have hca : CutAt b i (valN (b.take i)) := ⟨by have := List.length_pos_iff.2 hns.1.1; rw [List.length_take] at this; omega, by omega, by omega, fun j hj => by have := hns.1.2.1 j (by rw [List.length_take]; omega); rwa [bAt_take hj] at this, by omega, fun h => by have := hns.1.2.2 (by rw [bAt_take (by have := List.length_pos_iff.2 hns.1.1; rw [List.length_take] at this; omega)]; exact h); rw [List.length_take] at this; omega, rfl, by omega, by rw [← show i + 1 + n1.toNat = i + 1 + valN (b.take i) by omega]; omega⟩
  have hcr := hca.cut
  rw [List.nil_append, show ((i + 1 + n1.toNat) - ((i) + 1)) = valN (b.take i) by omega] at h106
  rw [show (((((i : Int)) + 2) + n1).toNat) = i + valN (b.take i) + 2 by omega] at h107
  exact ⟨_, rfl, (((((Chg.refl [] w).step0 h1 (by omega)).step0 c1 (by omega)).step0 c2 (by omega)).step0 c33 (by omega)), .inl ⟨_, _, _, _, rfl, hcr, h106.down (by omega), h107⟩⟩
  refine ops_add (a := ((i : Int)) + 1) (b := n1) (kd := .i64) (by kernel_rfl) (by kernel_rfl) (by kernel_rfl) (by kernel_rfl) (show (-9223372036854775808 : Int) ≤ (((i : Int)) + 1) + n1 by omega) (show (((i : Int)) + 1) + n1 ≤ (9223372036854775807 : Int) by omega) ?_
  refine ops_nil ?_
  refine nx_any trivial ?_
  refine any_2 2 (bm 18 5759) 11 (bm 18 7803) (by kernel_rfl) rfl (by kernel_rfl) rfl (by kernel_rfl) ?_ ?_
  refine ops_add (a := (i : Int)) (b := 1) (kd := .i64) (by kernel_rfl) (by kernel_rfl) (by kernel_rfl) (by kernel_rfl) (show (-9223372036854775808 : Int) ≤ ((i : Int)) + 1 by omega) (show ((i : Int)) + 1 ≤ (9223372036854775807 : Int) by omega) ?_
  refine ops_nil ?_
  refine nx_any trivial ?_
  have h108 := h14.keep0 c2 (by omega)
  refine any_part (q := 7) (listed' := (bm 18 5887)) (e := 5) (i := ((i : Int)) + 1) (kd := .i64) (i' := (((i : Int)) + 1) + n1) (kd' := .i64) ((i) + 1) (i + 1 + n1.toNat) panK_FB (by kernel_rfl) rfl (by kernel_rfl) (by kernel_rfl) (by kernel_rfl) (by kernel_rfl) (by kernel_rfl) (by kernel_rfl) (by kernel_rfl) (by kernel_rfl) (by kernel_rfl) h108 (by first | omega | (simp only [List.length_append, List.length_cons, List.length_nil, List.length_take, List.length_drop, List.length_map]; omega)) (by first | omega | (simp only [List.length_append, List.length_cons, List.length_nil, List.length_take, List.length_drop, List.length_map]; omega)) (by first | omega | (simp only [List.length_append, List.length_cons, List.length_nil, List.length_take, List.length_drop, List.length_map]; omega)) (by first | omega | (simp only [List.length_append, List.length_cons, List.length_nil, List.length_take, List.length_drop, List.length_map]; omega)) (fun v43 h109 => ?_)
  replace h109 := bs_part h109 (by omega)
  refine any_2 8 (bm 18 6143) 11 (bm 18 7935) (by kernel_rfl) rfl (by kernel_rfl) rfl (by kernel_rfl) ?_ ?_
  refine ops_appendB (e := 5) (by_ := 1) (l1 := []) (l2 := ((b.drop ((i) + 1)).take ((i + 1 + n1.toNat) - ((i) + 1)))) (by kernel_rfl) (by kernel_rfl) (by kernel_rfl) (by kernel_rfl) (by kernel_rfl) (by kernel_rfl) (by kernel_rfl) (Own.nil w3 w3.heap.size 1 (Nat.le_refl _)) h109 (by first | omega | (simp only [List.length_append, List.length_cons, List.length_nil, List.length_take, List.length_drop, List.length_map]; omega)) (fun v44 w20 h111 c35 c36 => ?_)
  have z21 := c35.size
  refine ops_nil ?_
  refine nx_any trivial ?_
  refine any_takes [15] (fuel' := 5) (listed' := (bm 18 38911)) (l' := [(0, v), (2, v44), (3, .slice none 0 0), (4, .bool false), (5, .int .i64 ((i : Int))), (65, v), (66, .int .i64 ((i : Int))), (68, .int .i64 n1)]) panK_FB (by kernel_rfl) (by kernel_rfl) (by kernel_rfl) ?_
  refine any_1 11 (bm 18 40959) (by kernel_rfl) rfl (by kernel_rfl) ?_
  refine ops_add (a := (i : Int)) (b := 2) (kd := .i64) (by kernel_rfl) (by kernel_rfl) (by kernel_rfl) (by kernel_rfl) (show (-9223372036854775808 : Int) ≤ ((i : Int)) + 2 by omega) (show ((i : Int)) + 2 ≤ (9223372036854775807 : Int) by omega) ?_
  refine ops_nil ?_
  refine nx_any trivial ?_
  refine any_1 13 (bm 18 49151) (by kernel_rfl) rfl (by kernel_rfl) ?_
  refine ops_add (a := ((i : Int)) + 2) (b := n1) (kd := .i64) (by kernel_rfl) (by kernel_rfl) (by kernel_rfl) (by kernel_rfl) (show (-9223372036854775808 : Int) ≤ (((i : Int)) + 2) + n1 by omega) (show (((i : Int)) + 2) + n1 ≤ (9223372036854775807 : Int) by omega) ?_
  refine ops_nil ?_
  refine nx_any trivial ?_
  have h112 := h108.keep0 c35 (by omega)
  refine any_from (q := 14) (listed' := (bm 18 65535)) (e := 5) (i := (((i : Int)) + 2) + n1) (kd := .i64) (((((i : Int)) + 2) + n1).toNat) panK_FB (by kernel_rfl) rfl (by kernel_rfl) (by kernel_rfl) (by kernel_rfl) (by kernel_rfl) (by kernel_rfl) (by kernel_rfl) (by kernel_rfl) (by kernel_rfl) h112 (by first | omega | (simp only [List.length_append, List.length_cons, List.length_nil, List.length_take, List.length_drop, List.length_map]; omega)) (by first | omega | (simp only [List.length_append, List.length_cons, List.length_nil, List.length_take, List.length_drop, List.length_map]; omega)) (fun v45 h113 => ?_)
  replace h113 := bs_from h113
  refine any_takes [16, 17] (fuel' := 0) (listed' := (bm 18 262143)) (l' := [(0, v), (2, v44), (3, v45), (4, .bool true), (5, .int .i64 ((i : Int)))]) panK_FB (by kernel_rfl) (by kernel_rfl) (by kernel_rfl) ?_
  refine any_done (by kernel_rfl) ?_
  refine nx_seq ?_
  refine at_ret (rs := [.tmp 2, .tmp 3, .tmp 4]) (vs := [v44, v45, .bool true]) rfl (by kernel_rfl) ?_
  have hca : CutAt b i (valN (b.take i)) := ⟨by have := List.length_pos_iff.2 hns.1.1; rw [List.length_take] at this; omega, by omega, by omega, fun j hj => by have := hns.1.2.1 j (by rw [List.length_take]; omega); rwa [bAt_take hj] at this, by omega, fun h => by have := hns.1.2.2 (by rw [bAt_take (by have := List.length_pos_iff.2 hns.1.1; rw [List.length_take] at this; omega)]; exact h); rw [List.length_take] at this; omega, rfl, by omega, by rw [← show i + 1 + n1.toNat = i + 1 + valN (b.take i) by omega]; omega⟩
  have hcr := hca.cut
  rw [List.nil_append, show ((i + 1 + n1.toNat) - ((i) + 1)) = valN (b.take i) by omega] at h111
  rw [show (((((i : Int)) + 2) + n1).toNat) = i + valN (b.take i) + 2 by omega] at h113
  exact ⟨_, rfl, (((((Chg.refl [] w).step0 h1 (by omega)).step0 c1 (by omega)).step0 c2 (by omega)).step0 c35 (by omega)), .inl ⟨_, _, _, _, rfl, hcr, h111.down (by omega), h113⟩⟩
  refine ops_add (a := (i : Int)) (b := 2) (kd := .i64) (by kernel_rfl) (by kernel_rfl) (by kernel_rfl) (by kernel_rfl) (show (-9223372036854775808 : Int) ≤ ((i : Int)) + 2 by omega) (show ((i : Int)) + 2 ≤ (9223372036854775807 : Int) by omega) ?_
  refine ops_nil ?_
  refine nx_any trivial ?_
  refine any_2 8 (bm 18 8191) 13 (bm 18 16127) (by kernel_rfl) rfl (by kernel_rfl) rfl (by kernel_rfl) ?_ ?_
  refine ops_appendB (e := 5) (by_ := 1) (l1 := []) (l2 := ((b.drop ((i) + 1)).take ((i + 1 + n1.toNat) - ((i) + 1)))) (by kernel_rfl) (by kernel_rfl) (by kernel_rfl) (by kernel_rfl) (by kernel_rfl) (by kernel_rfl) (by kernel_rfl) (Own.nil w3 w3.heap.size 1 (Nat.le_refl _)) h109 (by first | omega | (simp only [List.length_append, List.length_cons, List.length_nil, List.length_take, List.length_drop, List.length_map]; omega)) (fun v46 w21 h115 c37 c38 => ?_)
  have z22 := c37.size
  refine ops_nil ?_
  refine nx_any trivial ?_
  refine any_takes [15] (fuel' := 4) (listed' := (bm 18 40959)) (l' := [(0, v), (2, v46), (3, .slice none 0 0), (4, .bool false), (5, .int .i64 ((i : Int))), (65, v), (67, .int .i64 (((i : Int)) + 2)), (68, .int .i64 n1)]) panK_FB (by kernel_rfl) (by kernel_rfl) (by kernel_rfl) ?_
  refine any_1 13 (bm 18 49151) (by kernel_rfl) rfl (by kernel_rfl) ?_
  refine ops_add (a := ((i : Int)) + 2) (b := n1) (kd := .i64) (by kernel_rfl) (by kernel_rfl) (by kernel_rfl) (by kernel_rfl) (show (-9223372036854775808 : Int) ≤ (((i : Int)) + 2) + n1 by omega) (show (((i : Int)) + 2) + n1 ≤ (9223372036854775807 : Int) by omega) ?_
  refine ops_nil ?_
  refine nx_any trivial ?_
  have h116 := h108.keep0 c37 (by omega)
  refine any_from (q := 14) (listed' := (bm 18 65535)) (e := 5) (i := (((i : Int)) + 2) + n1) (kd := .i64) (((((i : Int)) + 2) + n1).toNat) panK_FB (by kernel_rfl) rfl (by kernel_rfl) (by kernel_rfl) (by kernel_rfl) (by kernel_rfl) (by kernel_rfl) (by kernel_rfl) (by kernel_rfl) (by kernel_rfl) h116 (by first | omega | (simp only [List.length_append, List.length_cons, List.length_nil, List.length_take, List.length_drop, List.length_map]; omega)) (by first | omega | (simp only [List.length_append, List.length_cons, List.length_nil, List.length_take, List.length_drop, List.length_map]; omega)) (fun v47 h117 => ?_)
  replace h117 := bs_from h117
  refine any_takes [16, 17] (fuel' := 0) (listed' := (bm 18 262143)) (l' := [(0, v), (2, v46), (3, v47), (4, .bool true), (5, .int .i64 ((i : Int)))]) panK_FB (by kernel_rfl) (by kernel_rfl) (by kernel_rfl) ?_
  refine any_done (by kernel_rfl) ?_
  refine nx_seq ?_
  refine at_ret (rs := [.tmp 2, .tmp 3, .tmp 4]) (vs := [v46, v47, .bool true]) rfl (by kernel_rfl) ?_
  have hca : CutAt b i (valN (b.take i)) := ⟨by have := List.length_pos_iff.2 hns.1.1; rw [List.length_take] at this; omega, by omega, by omega, fun j hj => by have := hns.1.2.1 j (by rw [List.length_take]; omega); rwa [bAt_take hj] at this, by omega, fun h => by have := hns.1.2.2 (by rw [bAt_take (by have := List.length_pos_iff.2 hns.1.1; rw [List.length_take] at this; omega)]; exact h); rw [List.length_take] at this; omega, rfl, by omega, by rw [← show i + 1 + n1.toNat = i + 1 + valN (b.take i) by omega]; omega⟩
  have hcr := hca.cut
  rw [List.nil_append, show ((i + 1 + n1.toNat) - ((i) + 1)) = valN (b.take i) by omega] at h115
  rw [show (((((i : Int)) + 2) + n1).toNat) = i + valN (b.take i) + 2 by omega] at h117
  exact ⟨_, rfl, (((((Chg.refl [] w).step0 h1 (by omega)).step0 c1 (by omega)).step0 c2 (by omega)).step0 c37 (by omega)), .inl ⟨_, _, _, _, rfl, hcr, h115.down (by omega), h117⟩⟩
  refine ops_add (a := ((i : Int)) + 2) (b := n1) (kd := .i64) (by kernel_rfl) (by kernel_rfl) (by kernel_rfl) (by kernel_rfl) (show (-9223372036854775808 : Int) ≤ (((i : Int)) + 2) + n1 by omega) (show (((i : Int)) + 2) + n1 ≤ (9223372036854775807 : Int) by omega) ?_
  refine ops_nil ?_
  refine nx_any trivial ?_
  refine any_from (q := 14) (listed' := (bm 18 32511)) (e := 5) (i := (((i : Int)) + 2) + n1) (kd := .i64) (((((i : Int)) + 2) + n1).toNat) panK_FB (by kernel_rfl) rfl (by kernel_rfl) (by kernel_rfl) (by kernel_rfl) (by kernel_rfl) (by kernel_rfl) (by kernel_rfl) (by kernel_rfl) (by kernel_rfl) h108 (by first | omega | (simp only [List.length_append, List.length_cons, List.length_nil, List.length_take, List.length_drop, List.length_map]; omega)) (by first | omega | (simp only [List.length_append, List.length_cons, List.length_nil, List.length_take, List.length_drop, List.length_map]; omega)) (fun v48 h119 => ?_)
  replace h119 := bs_from h119
  refine any_1 8 (bm 18 32767) (by kernel_rfl) rfl (by kernel_rfl) ?_
  refine ops_appendB (e := 5) (by_ := 1) (l1 := []) (l2 := ((b.drop ((i) + 1)).take ((i + 1 + n1.toNat) - ((i) + 1)))) (by kernel_rfl) (by kernel_rfl) (by kernel_rfl) (by kernel_rfl) (by kernel_rfl) (by kernel_rfl) (by kernel_rfl) (Own.nil w3 w3.heap.size 1 (Nat.le_refl _)) h109 (by first | omega | (simp only [List.length_append, List.length_cons, List.length_nil, List.length_take, List.length_drop, List.length_map]; omega)) (fun v49 w22 h121 c39 c40 => ?_)
  have z23 := c39.size
  refine ops_nil ?_
  refine nx_any trivial ?_
  refine any_takes [15, 16, 17] (fuel' := 0) (listed' := (bm 18 262143)) (l' := [(0, v), (2, v49), (3, v48), (4, .bool true), (5, .int .i64 ((i : Int)))]) panK_FB (by kernel_rfl) (by kernel_rfl) (by kernel_rfl) ?_
  refine any_done (by kernel_rfl) ?_
  refine nx_seq ?_
  refine at_ret (rs := [.tmp 2, .tmp 3, .tmp 4]) (vs := [v49, v48, .bool true]) rfl (by kernel_rfl) ?_
  have h122 := h119.keep0 c39 (by omega)
  have hca : CutAt b i (valN (b.take i)) := ⟨by have := List.length_pos_iff.2 hns.1.1; rw [List.length_take] at this; omega, by omega, by omega, fun j hj => by have := hns.1.2.1 j (by rw [List.length_take]; omega); rwa [bAt_take hj] at this, by omega, fun h => by have := hns.1.2.2 (by rw [bAt_take (by have := List.length_pos_iff.2 hns.1.1; rw [List.length_take] at this; omega)]; exact h); rw [List.length_take] at this; omega, rfl, by omega, by rw [← show i + 1 + n1.toNat = i + 1 + valN (b.take i) by omega]; omega⟩
  have hcr := hca.cut
  rw [List.nil_append, show ((i + 1 + n1.toNat) - ((i) + 1)) = valN (b.take i) by omega] at h121
  rw [show (((((i : Int)) + 2) + n1).toNat) = i + valN (b.take i) + 2 by omega] at h122
  exact ⟨_, rfl, (((((Chg.refl [] w).step0 h1 (by omega)).step0 c1 (by omega)).step0 c2 (by omega)).step0 c39 (by omega)), .inl ⟨_, _, _, _, rfl, hcr, h121.down (by omega), h122⟩⟩
  refine ops_add (a := (i : Int)) (b := 2) (kd := .i64) (by kernel_rfl) (by kernel_rfl) (by kernel_rfl) (by kernel_rfl) (show (-9223372036854775808 : Int) ≤ ((i : Int)) + 2 by omega) (show ((i : Int)) + 2 ≤ (9223372036854775807 : Int) by omega) ?_
  refine ops_nil ?_
  refine nx_any trivial ?_
  refine any_2 2 (bm 18 7807) 13 (bm 18 15995) (by kernel_rfl) rfl (by kernel_rfl) rfl (by kernel_rfl) ?_ ?_
  refine ops_add (a := (i : Int)) (b := 1) (kd := .i64) (by kernel_rfl) (by kernel_rfl) (by kernel_rfl) (by kernel_rfl) (show (-9223372036854775808 : Int) ≤ ((i : Int)) + 1 by omega) (show ((i : Int)) + 1 ≤ (9223372036854775807 : Int) by omega) ?_
  refine ops_nil ?_
  refine nx_any trivial ?_
  have h123 := h14.keep0 c2 (by omega)
  refine any_part (q := 7) (listed' := (bm 18 7935)) (e := 5) (i := ((i : Int)) + 1) (kd := .i64) (i' := (((i : Int)) + 1) + n1) (kd' := .i64) ((i) + 1) (i + 1 + n1.toNat) panK_FB (by kernel_rfl) rfl (by kernel_rfl) (by kernel_rfl) (by kernel_rfl) (by kernel_rfl) (by kernel_rfl) (by kernel_rfl) (by kernel_rfl) (by kernel_rfl) (by kernel_rfl) h123 (by first | omega | (simp only [List.length_append, List.length_cons, List.length_nil, List.length_take, List.length_drop, List.length_map]; omega)) (by first | omega | (simp only [List.length_append, List.length_cons, List.length_nil, List.length_take, List.length_drop, List.length_map]; omega)) (by first | omega | (simp only [List.length_append, List.length_cons, List.length_nil, List.length_take, List.length_drop, List.length_map]; omega)) (by first | omega | (simp only [List.length_append, List.length_cons, List.length_nil, List.length_take, List.length_drop, List.length_map]; omega)) (fun v50 h124 => ?_)
  replace h124 := bs_part h124 (by omega)
  refine any_2 8 (bm 18 8191) 13 (bm 18 16127) (by kernel_rfl) rfl (by kernel_rfl) rfl (by kernel_rfl) ?_ ?_
  refine ops_appendB (e := 5) (by_ := 1) (l1 := []) (l2 := ((b.drop ((i) + 1)).take ((i + 1 + n1.toNat) - ((i) + 1)))) (by kernel_rfl) (by kernel_rfl) (by kernel_rfl) (by kernel_rfl) (by kernel_rfl) (by kernel_rfl) (by kernel_rfl) (Own.nil w3 w3.heap.size 1 (Nat.le_refl _)) h124 (by first | omega | (simp only [List.length_append, List.length_cons, List.length_nil, List.length_take, List.length_drop, List.length_map]; omega)) (fun v51 w23 h126 c41 c42 => ?_)
  have z24 := c41.size
  refine ops_nil ?_
  refine nx_any trivial ?_
  refine any_takes [15] (fuel' := 4) (listed' := (bm 18 40959)) (l' := [(0, v), (2, v51), (3, .slice none 0 0), (4, .bool false), (5, .int .i64 ((i : Int))), (65, v), (67, .int .i64 (((i : Int)) + 2)), (68, .int .i64 n1)]) panK_FB (by kernel_rfl) (by kernel_rfl) (by kernel_rfl) ?_
  refine any_1 13 (bm 18 49151) (by kernel_rfl) rfl (by kernel_rfl) ?_
  refine ops_add (a := ((i : Int)) + 2) (b := n1) (kd := .i64) (by kernel_rfl) (by kernel_rfl) (by kernel_rfl) (by kernel_rfl) (show (-9223372036854775808 : Int) ≤ (((i : Int)) + 2) + n1 by omega) (show (((i : Int)) + 2) + n1 ≤ (9223372036854775807 : Int) by omega) ?_
  refine ops_nil ?_
  refine nx_any trivial ?_
  have h127 := h123.keep0 c41 (by omega)
  refine any_from (q := 14) (listed' := (bm 18 65535)) (e := 5) (i := (((i : Int)) + 2) + n1) (kd := .i64) (((((i : Int)) + 2) + n1).toNat) panK_FB (by kernel_rfl) rfl (by kernel_rfl) (by kernel_rfl) (by kernel_rfl) (by kernel_rfl) (by kernel_rfl) (by kernel_rfl) (by kernel_rfl) (by kernel_rfl) h127 (by first | omega | (simp only [List.length_append, List.length_cons, List.length_nil, List.length_take, List.length_drop, List.length_map]; omega)) (by first | omega | (simp only [List.length_append, List.length_cons, List.length_nil, List.length_take, List.length_drop, List.length_map]; omega)) (fun v52 h128 => ?_)
  replace h128 := bs_from h128
  refine any_takes [16, 17] (fuel' := 0) (listed' := (bm 18 262143)) (l' := [(0, v), (2, v51), (3, v52), (4, .bool true), (5, .int .i64 ((i : Int)))]) panK_FB (by kernel_rfl) (by kernel_rfl) (by kernel_rfl) ?_
  refine any_done (by kernel_rfl) ?_
  refine nx_seq ?_
  refine at_ret (rs := [.tmp 2, .tmp 3, .tmp 4]) (vs := [v51, v52, .bool true]) rfl (by kernel_rfl) ?_
  have hca : CutAt b i (valN (b.take i)) := ⟨by have := List.length_pos_iff.2 hns.1.1; rw [List.length_take] at this; omega, by omega, by omega, fun j hj => by have := hns.1.2.1 j (by rw [List.length_take]; omega); rwa [bAt_take hj] at this, by omega, fun h => by have := hns.1.2.2 (by rw [bAt_take (by have := List.length_pos_iff.2 hns.1.1; rw [List.length_take] at this; omega)]; exact h); rw [List.length_take] at this; omega, rfl, by omega, by rw [← show i + 1 + n1.toNat = i + 1 + valN (b.take i) by omega]; omega⟩
  have hcr := hca.cut
  rw [List.nil_append, show ((i + 1 + n1.toNat) - ((i) + 1)) = valN (b.take i) by omega] at h126
  rw [show (((((i : Int)) + 2) + n1).toNat) = i + valN (b.take i) + 2 by omega] at h128
  exact ⟨_, rfl, (((((Chg.refl [] w).step0 h1 (by omega)).step0 c1 (by omega)).step0 c2 (by omega)).step0 c41 (by omega)), .inl ⟨_, _, _, _, rfl, hcr, h126.down (by omega), h128⟩⟩
  refine ops_add (a := ((i : Int)) + 2) (b := n1) (kd := .i64) (by kernel_rfl) (by kernel_rfl) (by kernel_rfl) (by kernel_rfl) (show (-9223372036854775808 : Int) ≤ (((i : Int)) + 2) + n1 by omega) (show (((i : Int)) + 2) + n1 ≤ (9223372036854775807 : Int) by omega) ?_
  refine ops_nil ?_
  refine nx_any trivial ?_
  refine any_from (q := 14) (listed' := (bm 18 32511)) (e := 5) (i := (((i : Int)) + 2) + n1) (kd := .i64) (((((i : Int)) + 2) + n1).toNat) panK_FB (by kernel_rfl) rfl (by kernel_rfl) (by kernel_rfl) (by kernel_rfl) (by kernel_rfl) (by kernel_rfl) (by kernel_rfl) (by kernel_rfl) (by kernel_rfl) h123 (by first | omega | (simp only [List.length_append, List.length_cons, List.length_nil, List.length_take, List.length_drop, List.length_map]; omega)) (by first | omega | (simp only [List.length_append, List.length_cons, List.length_nil, List.length_take, List.length_drop, List.length_map]; omega)) (fun v53 h130 => ?_)
  replace h130 := bs_from h130
  refine any_1 8 (bm 18 32767) (by kernel_rfl) rfl (by kernel_rfl) ?_
  refine ops_appendB (e := 5) (by_ := 1) (l1 := []) (l2 := ((b.drop ((i) + 1)).take ((i + 1 + n1.toNat) - ((i) + 1)))) (by kernel_rfl) (by kernel_rfl) (by kernel_rfl) (by kernel_rfl) (by kernel_rfl) (by kernel_rfl) (by kernel_rfl) (Own.nil w3 w3.heap.size 1 (Nat.le_refl _)) h124 (by first | omega | (simp only [List.length_append, List.length_cons, List.length_nil, List.length_take, List.length_drop, List.length_map]; omega)) (fun v54 w24 h132 c43 c44 => ?_)
  have z25 := c43.size
  refine ops_nil ?_
  refine nx_any trivial ?_
  refine any_takes [15, 16, 17] (fuel' := 0) (listed' := (bm 18 262143)) (l' := [(0, v), (2, v54), (3, v53), (4, .bool true), (5, .int .i64 ((i : Int)))]) panK_FB (by kernel_rfl) (by kernel_rfl) (by kernel_rfl) ?_
  refine any_done (by kernel_rfl) ?_
  refine nx_seq ?_
  refine at_ret (rs := [.tmp 2, .tmp 3, .tmp 4]) (vs := [v54, v53, .bool true]) rfl (by kernel_rfl) ?_
  have h133 := h130.keep0 c43 (by omega)
  have hca : CutAt b i (valN (b.take i)) := ⟨by have := List.length_pos_iff.2 hns.1.1; rw [List.length_take] at this; omega, by omega, by omega, fun j hj => by have := hns.1.2.1 j (by rw [List.length_take]; omega); rwa [bAt_take hj] at this, by omega, fun h => by have := hns.1.2.2 (by rw [bAt_take (by have := List.length_pos_iff.2 hns.1.1; rw [List.length_take] at this; omega)]; exact h); rw [List.length_take] at this; omega, rfl, by omega, by rw [← show i + 1 + n1.toNat = i + 1 + valN (b.take i) by omega]; omega⟩
  have hcr := hca.cut
  rw [List.nil_append, show ((i + 1 + n1.toNat) - ((i) + 1)) = valN (b.take i) by omega] at h132
  rw [show (((((i : Int)) + 2) + n1).toNat) = i + valN (b.take i) + 2 by omega] at h133
  exact ⟨_, rfl, (((((Chg.refl [] w).step0 h1 (by omega)).step0 c1 (by omega)).step0 c2 (by omega)).step0 c43 (by omega)), .inl ⟨_, _, _, _, rfl, hcr, h132.down (by omega), h133⟩⟩
  refine ops_add (a := ((i : Int)) + 2) (b := n1) (kd := .i64) (by kernel_rfl) (by kernel_rfl) (by kernel_rfl) (by kernel_rfl) (show (-9223372036854775808 : Int) ≤ (((i : Int)) + 2) + n1 by omega) (show (((i : Int)) + 2) + n1 ≤ (9223372036854775807 : Int) by omega) ?_
  refine ops_nil ?_
  refine nx_any trivial ?_
  have h134 := h14.keep0 c2 (by omega)
  refine any_from (q := 14) (listed' := (bm 18 32379)) (e := 5) (i := (((i : Int)) + 2) + n1) (kd := .i64) (((((i : Int)) + 2) + n1).toNat) panK_FB (by kernel_rfl) rfl (by kernel_rfl) (by kernel_rfl) (by kernel_rfl) (by kernel_rfl) (by kernel_rfl) (by kernel_rfl) (by kernel_rfl) (by kernel_rfl) h134 (by first | omega | (simp only [List.length_append, List.length_cons, List.length_nil, List.length_take, List.length_drop, List.length_map]; omega)) (by first | omega | (simp only [List.length_append, List.length_cons, List.length_nil, List.length_take, List.length_drop, List.length_map]; omega)) (fun v55 h135 => ?_)
  replace h135 := bs_from h135
  refine any_1 2 (bm 18 32383) (by kernel_rfl) rfl (by kernel_rfl) ?_
  refine ops_add (a := (i : Int)) (b := 1) (kd := .i64) (by kernel_rfl) (by kernel_rfl) (by kernel_rfl) (by kernel_rfl) (show (-9223372036854775808 : Int) ≤ ((i : Int)) + 1 by omega) (show ((i : Int)) + 1 ≤ (9223372036854775807 : Int) by omega) ?_
  refine ops_nil ?_
  refine nx_any trivial ?_
  refine any_part (q := 7) (listed' := (bm 18 32511)) (e := 5) (i := ((i : Int)) + 1) (kd := .i64) (i' := (((i : Int)) + 1) + n1) (kd' := .i64) ((i) + 1) (i + 1 + n1.toNat) panK_FB (by kernel_rfl) rfl (by kernel_rfl) (by kernel_rfl) (by kernel_rfl) (by kernel_rfl) (by kernel_rfl) (by kernel_rfl) (by kernel_rfl) (by kernel_rfl) (by kernel_rfl) h134 (by first | omega | (simp only [List.length_append, List.length_cons, List.length_nil, List.length_take, List.length_drop, List.length_map]; omega)) (by first | omega | (simp only [List.length_append, List.length_cons, List.length_nil, List.length_take, List.length_drop, List.length_map]; omega)) (by first | omega | (simp only [List.length_append, List.length_cons, List.length_nil, List.length_take, List.length_drop, List.length_map]; omega)) (by first | omega | (simp only [List.length_append, List.length_cons, List.length_nil, List.length_take, List.length_drop, List.length_map]; omega)) (fun v56 h137 => ?_)
  replace h137 := bs_part h137 (by omega)
  refine any_1 8 (bm 18 32767) (by kernel_rfl) rfl (by kernel_rfl) ?_
  refine ops_appendB (e := 5) (by_ := 1) (l1 := []) (l2 := ((b.drop ((i) + 1)).take ((i + 1 + n1.toNat) - ((i) + 1)))) (by kernel_rfl) (by kernel_rfl) (by kernel_rfl) (by kernel_rfl) (by kernel_rfl) (by kernel_rfl) (by kernel_rfl) (Own.nil w3 w3.heap.size 1 (Nat.le_refl _)) h137 (by first | omega | (simp only [List.length_append, List.length_cons, List.length_nil, List.length_take, List.length_drop, List.length_map]; omega)) (fun v57 w25 h139 c45 c46 => ?_)
  have z26 := c45.size
  refine ops_nil ?_
  refine nx_any trivial ?_
  refine any_takes [15, 16, 17] (fuel' := 0) (listed' := (bm 18 262143)) (l' := [(0, v), (2, v57), (3, v55), (4, .bool true), (5, .int .i64 ((i : Int)))]) panK_FB (by kernel_rfl) (by kernel_rfl) (by kernel_rfl) ?_
  refine any_done (by kernel_rfl) ?_
  refine nx_seq ?_
  refine at_ret (rs := [.tmp 2, .tmp 3, .tmp 4]) (vs := [v57, v55, .bool true]) rfl (by kernel_rfl) ?_
  have h140 := h135.keep0 c45 (by omega)
  have hca : CutAt b i (valN (b.take i)) := ⟨by have := List.length_pos_iff.2 hns.1.1; rw [List.length_take] at this; omega, by omega, by omega, fun j hj => by have := hns.1.2.1 j (by rw [List.length_take]; omega); rwa [bAt_take hj] at this, by omega, fun h => by have := hns.1.2.2 (by rw [bAt_take (by have := List.length_pos_iff.2 hns.1.1; rw [List.length_take] at this; omega)]; exact h); rw [List.length_take] at this; omega, rfl, by omega, by rw [← show i + 1 + n1.toNat = i + 1 + valN (b.take i) by omega]; omega⟩
  have hcr := hca.cut
  rw [List.nil_append, show ((i + 1 + n1.toNat) - ((i) + 1)) = valN (b.take i) by omega] at h139
  rw [show (((((i : Int)) + 2) + n1).toNat) = i + valN (b.take i) + 2 by omega] at h140
  exact ⟨_, rfl, (((((Chg.refl [] w).step0 h1 (by omega)).step0 c1 (by omega)).step0 c2 (by omega)).step0 c45 (by omega)), .inl ⟨_, _, _, _, rfl, hcr, h139.down (by omega), h140⟩⟩
  refine ops_add (a := (i : Int)) (b := 2) (kd := .i64) (by kernel_rfl) (by kernel_rfl) (by kernel_rfl) (by kernel_rfl) (show (-9223372036854775808 : Int) ≤ ((i : Int)) + 2 by omega) (show ((i : Int)) + 2 ≤ (9223372036854775807 : Int) by omega) ?_
  refine ops_nil ?_
  refine nx_any trivial ?_
  refine any_3 2 (bm 18 7743) 6 (bm 18 7803) 13 (bm 18 15931) (by kernel_rfl) rfl (by kernel_rfl) rfl (by kernel_rfl) rfl (by kernel_rfl) ?_ ?_ ?_
  refine ops_add (a := (i : Int)) (b := 1) (kd := .i64) (by kernel_rfl) (by kernel_rfl) (by kernel_rfl) (by kernel_rfl) (show (-9223372036854775808 : Int) ≤ ((i : Int)) + 1 by omega) (show ((i : Int)) + 1 ≤ (9223372036854775807 : Int) by omega) ?_
  refine ops_nil ?_
  refine nx_any trivial ?_
  refine any_2 6 (bm 18 7807) 13 (bm 18 15935) (by kernel_rfl) rfl (by kernel_rfl) rfl (by kernel_rfl) ?_ ?_
  refine ops_add (a := ((i : Int)) + 1) (b := n1) (kd := .i64) (by kernel_rfl) (by kernel_rfl) (by kernel_rfl) (by kernel_rfl) (show (-9223372036854775808 : Int) ≤ (((i : Int)) + 1) + n1 by omega) (show (((i : Int)) + 1) + n1 ≤ (9223372036854775807 : Int) by omega) ?_
  refine ops_nil ?_
  refine nx_any trivial ?_
  have h141 := h14.keep0 c2 (by omega)
  refine any_part (q := 7) (listed' := (bm 18 7935)) (e := 5) (i := ((i : Int)) + 1) (kd := .i64) (i' := (((i : Int)) + 1) + n1) (kd' := .i64) ((i) + 1) (i + 1 + n1.toNat) panK_FB (by kernel_rfl) rfl (by kernel_rfl) (by kernel_rfl) (by kernel_rfl) (by kernel_rfl) (by kernel_rfl) (by kernel_rfl) (by kernel_rfl) (by kernel_rfl) (by kernel_rfl) h141 (by first | omega | (simp only [List.length_append, List.length_cons, List.length_nil, List.length_take, List.length_drop, List.length_map]; omega)) (by first | omega | (simp only [List.length_append, List.length_cons, List.length_nil, List.length_take, List.length_drop, List.length_map]; omega)) (by first | omega | (simp only [List.length_append, List.length_cons, List.length_nil, List.length_take, List.length_drop, List.length_map]; omega)) (by first | omega | (simp only [List.length_append, List.length_cons, List.length_nil, List.length_take, List.length_drop, List.length_map]; omega)) (fun v58 h142 => ?_)
  replace h142 := bs_part h142 (by omega)
  refine any_2 8 (bm 18 8191) 13 (bm 18 16127) (by kernel_rfl) rfl (by kernel_rfl) rfl (by kernel_rfl) ?_ ?_
  refine ops_appendB (e := 5) (by_ := 1) (l1 := []) (l2 := ((b.drop ((i) + 1)).take ((i + 1 + n1.toNat) - ((i) + 1)))) (by kernel_rfl) (by kernel_rfl) (by kernel_rfl) (by kernel_rfl) (by kernel_rfl) (by kernel_rfl) (by kernel_rfl) (Own.nil w3 w3.heap.size 1 (Nat.le_refl _)) h142 (by first | omega | (simp only [List.length_append, List.length_cons, List.length_nil, List.length_take, List.length_drop, List.length_map]; omega)) (fun v59 w26 h144 c47 c48 => ?_)
  have z27 := c47.size
  refine ops_nil ?_
  refine nx_any trivial ?_
  refine any_takes [15] (fuel' := 4) (listed' := (bm 18 40959)) (l' := [(0, v), (2, v59), (3, .slice none 0 0), (4, .bool false), (5, .int .i64 ((i : Int))), (65, v), (67, .int .i64 (((i : Int)) + 2)), (68, .int .i64 n1)]) panK_FB (by kernel_rfl) (by kernel_rfl) (by kernel_rfl) ?_
  refine any_1 13 (bm 18 49151) (by kernel_rfl) rfl (by kernel_rfl) ?_
  refine ops_add (a := ((i : Int)) + 2) (b := n1) (kd := .i64) (by kernel_rfl) (by kernel_rfl) (by kernel_rfl) (by kernel_rfl) (show (-9223372036854775808 : Int) ≤ (((i : Int)) + 2) + n1 by omega) (show (((i : Int)) + 2) + n1 ≤ (9223372036854775807 : Int) by omega) ?_
  refine ops_nil ?_
  refine nx_any trivial ?_
  have h145 := h141.keep0 c47 (by omega)
  refine any_from (q := 14) (listed' := (bm 18 65535)) (e := 5) (i := (((i : Int)) + 2) + n1) (kd := .i64) (((((i : Int)) + 2) + n1).toNat) panK_FB (by kernel_rfl) rfl (by kernel_rfl) (by kernel_rfl) (by kernel_rfl) (by kernel_rfl) (by kernel_rfl) (by kernel_rfl) (by kernel_rfl) (by kernel_rfl) h145 (by first | omega | (simp only [List.length_append, List.length_cons, List.length_nil, List.length_take, List.length_drop, List.length_map]; omega)) (by first | omega | (simp only [List.length_append, List.length_cons, List.length_nil, List.length_take, List.length_drop, List.length_map]; omega)) (fun v60 h146 => ?_)
  replace h146 := bs_from h146
  refine any_takes [16, 17] (fuel' := 0) (listed' := (bm 18 262143)) (l' := [(0, v), (2, v59), (3, v60), (4, .bool true), (5, .int .i64 ((i : Int)))]) panK_FB (by kernel_rfl) (by kernel_rfl) (by kernel_rfl) ?_
  refine any_done (by kernel_rfl) ?_
  refine nx_seq ?_
  refine at_ret (rs := [.tmp 2, .tmp 3, .tmp 4]) (vs := [v59, v60, .bool true]) rfl (by kernel_rfl) ?_
  have hca : CutAt b i (valN (b.take i)) := ⟨by have := List.length_pos_iff.2 hns.1.1; rw [List.length_take] at this; omega, by omega, by omega, fun j hj => by have := hns.1.2.1 j (by rw [List.length_take]; omega); rwa [bAt_take hj] at this, by omega, fun h => by have := hns.1.2.2 (by rw [bAt_take (by have := List.length_pos_iff.2 hns.1.1; rw [List.length_take] at this; omega)]; exact h); rw [List.length_take] at this; omega, rfl, by omega, by rw [← show i + 1 + n1.toNat = i + 1 + valN (b.take i) by omega]; omega⟩
  have hcr := hca.cut
  rw [List.nil_append, show ((i + 1 + n1.toNat) - ((i) + 1)) = valN (b.take i) by omega] at h144
  rw [show (((((i : Int)) + 2) + n1).toNat) = i + valN (b.take i) + 2 by omega] at h146
  exact ⟨_, rfl, (((((Chg.refl [] w).step0 h1 (by omega)).step0 c1 (by omega)).step0 c2 (by omega)).step0 c47 (by omega)), .inl ⟨_, _, _, _, rfl, hcr, h144.down (by omega), h146⟩⟩
  refine ops_add (a := ((i : Int)) + 2) (b := n1) (kd := .i64) (by kernel_rfl) (by kernel_rfl) (by kernel_rfl) (by kernel_rfl) (show (-9223372036854775808 : Int) ≤ (((i : Int)) + 2) + n1 by omega) (show (((i : Int)) + 2) + n1 ≤ (9223372036854775807 : Int) by omega) ?_
  refine ops_nil ?_
  refine nx_any trivial ?_
  refine any_from (q := 14) (listed' := (bm 18 32511)) (e := 5) (i := (((i : Int)) + 2) + n1) (kd := .i64) (((((i : Int)) + 2) + n1).toNat) panK_FB (by kernel_rfl) rfl (by kernel_rfl) (by kernel_rfl) (by kernel_rfl) (by kernel_rfl) (by kernel_rfl) (by kernel_rfl) (by kernel_rfl) (by kernel_rfl) h141 (by first | omega | (simp only [List.length_append, List.length_cons, List.length_nil, List.length_take, List.length_drop, List.length_map]; omega)) (by first | omega | (simp only [List.length_append, List.length_cons, List.length_nil, List.length_take, List.length_drop, List.length_map]; omega)) (fun v61 h148 => ?_)
  replace h148 := bs_from h148
  refine any_1 8 (bm 18 32767) (by kernel_rfl) rfl (by kernel_rfl) ?_
  refine ops_appendB (e := 5) (by_ := 1) (l1 := []) (l2 := ((b.drop ((i) + 1)).take ((i + 1 + n1.toNat) - ((i) + 1)))) (by kernel_rfl) (by kernel_rfl) (by kernel_rfl) (by kernel_rfl) (by kernel_rfl) (by kernel_rfl) (by kernel_rfl) (Own.nil w3 w3.heap.size 1 (Nat.le_refl _)) h142 (by first | omega | (simp only [List.length_append, List.length_cons, List.length_nil, List.length_take, List.length_drop, List.length_map]; omega)) (fun v62 w27 h150 c49 c50 => ?_)
  have z28 := c49.size
  refine ops_nil ?_
  refine nx_any trivial ?_
  refine any_takes [15, 16, 17] (fuel' := 0) (listed' := (bm 18 262143)) (l' := [(0, v), (2, v62), (3, v61), (4, .bool true), (5, .int .i64 ((i : Int)))]) panK_FB (by kernel_rfl) (by kernel_rfl) (by kernel_rfl) ?_
  refine any_done (by kernel_rfl) ?_
  refine nx_seq ?_
  refine at_ret (rs := [.tmp 2, .tmp 3, .tmp 4]) (vs := [v62, v61, .bool true]) rfl (by kernel_rfl) ?_
  have h151 := h148.keep0 c49 (by omega)
  have hca : CutAt b i (valN (b.take i)) := ⟨by have := List.length_pos_iff.2 hns.1.1; rw [List.length_take] at this; omega, by omega, by omega, fun j hj => by have := hns.1.2.1 j (by rw [List.length_take]; omega); rwa [bAt_take hj] at this, by omega, fun h => by have := hns.1.2.2 (by rw [bAt_take (by have := List.length_pos_iff.2 hns.1.1; rw [List.length_take] at this; omega)]; exact h); rw [List.length_take] at this; omega, rfl, by omega, by rw [← show i + 1 + n1.toNat = i + 1 + valN (b.take i) by omega]; omega⟩
  have hcr := hca.cut
  rw [List.nil_append, show ((i + 1 + n1.toNat) - ((i) + 1)) = valN (b.take i) by omega] at h150
  rw [show (((((i : Int)) + 2) + n1).toNat) = i + valN (b.take i) + 2 by omega] at h151
  exact ⟨_, rfl, (((((Chg.refl [] w).step0 h1 (by omega)).step0 c1 (by omega)).step0 c2 (by omega)).step0 c49 (by omega)), .inl ⟨_, _, _, _, rfl, hcr, h150.down (by omega), h151⟩⟩
  refine ops_add (a := ((i : Int)) + 2) (b := n1) (kd := .i64) (by kernel_rfl) (by kernel_rfl) (by kernel_rfl) (by kernel_rfl) (show (-9223372036854775808 : Int) ≤ (((i : Int)) + 2) + n1 by omega) (show (((i : Int)) + 2) + n1 ≤ (9223372036854775807 : Int) by omega) ?_
  refine ops_nil ?_
  refine nx_any trivial ?_
  have h152 := h14.keep0 c2 (by omega)
  refine any_from (q := 14) (listed' := (bm 18 32319)) (e := 5) (i := (((i : Int)) + 2) + n1) (kd := .i64) (((((i : Int)) + 2) + n1).toNat) panK_FB (by kernel_rfl) rfl (by kernel_rfl) (by kernel_rfl) (by kernel_rfl) (by kernel_rfl) (by kernel_rfl) (by kernel_rfl) (by kernel_rfl) (by kernel_rfl) h152 (by first | omega | (simp only [List.length_append, List.length_cons, List.length_nil, List.length_take, List.length_drop, List.length_map]; omega)) (by first | omega | (simp only [List.length_append, List.length_cons, List.length_nil, List.length_take, List.length_drop, List.length_map]; omega)) (fun v63 h153 => ?_)
  replace h153 := bs_from h153
  refine any_1 6 (bm 18 32383) (by kernel_rfl) rfl (by kernel_rfl) ?_
  refine ops_add (a := ((i : Int)) + 1) (b := n1) (kd := .i64) (by kernel_rfl) (by kernel_rfl) (by kernel_rfl) (by kernel_rfl) (show (-9223372036854775808 : Int) ≤ (((i : Int)) + 1) + n1 by omega) (show (((i : Int)) + 1) + n1 ≤ (9223372036854775807 : Int) by omega) ?_
  refine ops_nil ?_
  refine nx_any trivial ?_
  refine any_part (q := 7) (listed' := (bm 18 32511)) (e := 5) (i := ((i : Int)) + 1) (kd := .i64) (i' := (((i : Int)) + 1) + n1) (kd' := .i64) ((i) + 1) (i + 1 + n1.toNat) panK_FB (by kernel_rfl) rfl (by kernel_rfl) (by kernel_rfl) (by kernel_rfl) (by kernel_rfl) (by kernel_rfl) (by kernel_rfl) (by kernel_rfl) (by kernel_rfl) (by kernel_rfl) h152 (by first | omega | (simp only [List.length_append, List.length_cons, List.length_nil, List.length_take, List.length_drop, List.length_map]; omega)) (by first | omega | (simp only [List.length_append, List.length_cons, List.length_nil, List.length_take, List.length_drop, List.length_map]; omega)) (by first | omega | (simp only [List.length_append, List.length_cons, List.length_nil, List.length_take, List.length_drop, List.length_map]; omega)) (by first | omega | (simp only [List.length_append, List.length_cons, List.length_nil, List.length_take, List.length_drop, List.length_map]; omega)) (fun v64 h155 => ?_)
  replace h155 := bs_part h155 (by omega)
  refine any_1 8 (bm 18 32767) (by kernel_rfl) rfl (by kernel_rfl) ?_
  refine ops_appendB (e := 5) (by_ := 1) (l1 := []) (l2 := ((b.drop ((i) + 1)).take ((i + 1 + n1.toNat) - ((i) + 1)))) (by kernel_rfl) (by kernel_rfl) (by kernel_rfl) (by kernel_rfl) (by kernel_rfl) (by kernel_rfl) (by kernel_rfl) (Own.nil w3 w3.heap.size 1 (Nat.le_refl _)) h155 (by first | omega | (simp only [List.length_append, List.length_cons, List.length_nil, List.length_take, List.length_drop, List.length_map]; omega)) (fun v65 w28 h157 c51 c52 => ?_)
  have z29 := c51.size
  refine ops_nil ?_
  refine nx_any trivial ?_
  refine any_takes [15, 16, 17] (fuel' := 0) (listed' := (bm 18 262143)) (l' := [(0, v), (2, v65), (3, v63), (4, .bool true), (5, .int .i64 ((i : Int)))]) panK_FB (by kernel_rfl) (by kernel_rfl) (by kernel_rfl) ?_
  refine any_done (by kernel_rfl) ?_
  refine nx_seq ?_
  refine at_ret (rs := [.tmp 2, .tmp 3, .tmp 4]) (vs := [v65, v63, .bool true]) rfl (by kernel_rfl) ?_
  have h158 := h153.keep0 c51 (by omega)
  have hca : CutAt b i (valN (b.take i)) := ⟨by have := List.length_pos_iff.2 hns.1.1; rw [List.length_take] at this; omega, by omega, by omega, fun j hj => by have := hns.1.2.1 j (by rw [List.length_take]; omega); rwa [bAt_take hj] at this, by omega, fun h => by have := hns.1.2.2 (by rw [bAt_take (by have := List.length_pos_iff.2 hns.1.1; rw [List.length_take] at this; omega)]; exact h); rw [List.length_take] at this; omega, rfl, by omega, by rw [← show i + 1 + n1.toNat = i + 1 + valN (b.take i) by omega]; omega⟩
  have hcr := hca.cut
  rw [List.nil_append, show ((i + 1 + n1.toNat) - ((i) + 1)) = valN (b.take i) by omega] at h157
  rw [show (((((i : Int)) + 2) + n1).toNat) = i + valN (b.take i) + 2 by omega] at h158
  exact ⟨_, rfl, (((((Chg.refl [] w).step0 h1 (by omega)).step0 c1 (by omega)).step0 c2 (by omega)).step0 c51 (by omega)), .inl ⟨_, _, _, _, rfl, hcr, h157.down (by omega), h158⟩⟩
  refine ops_add (a := ((i : Int)) + 1) (b := n1) (kd := .i64) (by kernel_rfl) (by kernel_rfl) (by kernel_rfl) (by kernel_rfl) (show (-9223372036854775808 : Int) ≤ (((i : Int)) + 1) + n1 by omega) (show (((i : Int)) + 1) + n1 ≤ (9223372036854775807 : Int) by omega) ?_
  refine ops_nil ?_
  refine nx_any trivial ?_
  refine any_2 2 (bm 18 7807) 13 (bm 18 15995) (by kernel_rfl) rfl (by kernel_rfl) rfl (by kernel_rfl) ?_ ?_
  refine ops_add (a := (i : Int)) (b := 1) (kd := .i64) (by kernel_rfl) (by kernel_rfl) (by kernel_rfl) (by kernel_rfl) (show (-9223372036854775808 : Int) ≤ ((i : Int)) + 1 by omega) (show ((i : Int)) + 1 ≤ (9223372036854775807 : Int) by omega) ?_
  refine ops_nil ?_
  refine nx_any trivial ?_
  have h159 := h14.keep0 c2 (by omega)
  refine any_part (q := 7) (listed' := (bm 18 7935)) (e := 5) (i := ((i : Int)) + 1) (kd := .i64) (i' := (((i : Int)) + 1) + n1) (kd' := .i64) ((i) + 1) (i + 1 + n1.toNat) panK_FB (by kernel_rfl) rfl (by kernel_rfl) (by kernel_rfl) (by kernel_rfl) (by kernel_rfl) (by kernel_rfl) (by kernel_rfl) (by kernel_rfl) (by kernel_rfl) (by kernel_rfl) h159 (by first | omega | (simp only [List.length_append, List.length_cons, List.length_nil, List.length_take, List.length_drop, List.length_map]; omega)) (by first | omega | (simp only [List.length_append, List.length_cons, List.length_nil, List.length_take, List.length_drop, List.length_map]; omega)) (by first | omega | (simp only [List.length_append, List.length_cons, List.length_nil, List.length_take, List.length_drop, List.length_map]; omega)) (by first | omega | (simp only [List.length_append, List.length_cons, List.length_nil, List.length_take, List.length_drop, List.length_map]; omega)) (fun v66 h160 => ?_)
  replace h160 := bs_part h160 (by omega)
  refine any_2 8 (bm 18 8191) 13 (bm 18 16127) (by kernel_rfl) rfl (by kernel_rfl) rfl (by kernel_rfl) ?_ ?_
  refine ops_appendB (e := 5) (by_ := 1) (l1 := []) (l2 := ((b.drop ((i) + 1)).take ((i + 1 + n1.toNat) - ((i) + 1)))) (by kernel_rfl) (by kernel_rfl) (by kernel_rfl) (by kernel_rfl) (by kernel_rfl) (by kernel_rfl) (by kernel_rfl) (Own.nil w3 w3.heap.size 1 (Nat.le_refl _)) h160 (by first | omega | (simp only [List.length_append, List.length_cons, List.length_nil, List.length_take, List.length_drop, List.length_map]; omega)) (fun v67 w29 h162 c53 c54 => ?_)
  have z30 := c53.size
  refine ops_nil ?_
  refine nx_any trivial ?_
  refine any_takes [15] (fuel' := 4) (listed' := (bm 18 40959)) (l' := [(0, v), (2, v67), (3, .slice none 0 0), (4, .bool false), (5, .int .i64 ((i : Int))), (65, v), (67, .int .i64 (((i : Int)) + 2)), (68, .int .i64 n1)]) panK_FB (by kernel_rfl) (by kernel_rfl) (by kernel_rfl) ?_
  refine any_1 13 (bm 18 49151) (by kernel_rfl) rfl (by kernel_rfl) ?_
  refine ops_add (a := ((i : Int)) + 2) (b := n1) (kd := .i64) (by kernel_rfl) (by kernel_rfl) (by kernel_rfl) (by kernel_rfl) (show (-9223372036854775808 : Int) ≤ (((i : Int)) + 2) + n1 by omega) (show (((i : Int)) + 2) + n1 ≤ (9223372036854775807 : Int) by omega) ?_
  refine ops_nil ?_
  refine nx_any trivial ?_
  have h163 := h159.keep0 c53 (by omega)
  refine any_from (q := 14) (listed' := (bm 18 65535)) (e := 5) (i := (((i : Int)) + 2) + n1) (kd := .i64) (((((i : Int)) + 2) + n1).toNat) panK_FB (by kernel_rfl) rfl (by kernel_rfl) (by kernel_rfl) (by kernel_rfl) (by kernel_rfl) (by kernel_rfl) (by kernel_rfl) (by kernel_rfl) (by kernel_rfl) h163 (by first | omega | (simp only [List.length_append, List.length_cons, List.length_nil, List.length_take, List.length_drop, List.length_map]; omega)) (by first | omega | (simp only [List.length_append, List.length_cons, List.length_nil, List.length_take, List.length_drop, List.length_map]; omega)) (fun v68 h164 => ?_)
  replace h164 := bs_from h164
  refine any_takes [16, 17] (fuel' := 0) (listed' := (bm 18 262143)) (l' := [(0, v), (2, v67), (3, v68), (4, .bool true), (5, .int .i64 ((i : Int)))]) panK_FB (by kernel_rfl) (by kernel_rfl) (by kernel_rfl) ?_
  refine any_done (by kernel_rfl) ?_
  refine nx_seq ?_
  refine at_ret (rs := [.tmp 2, .tmp 3, .tmp 4]) (vs := [v67, v68, .bool true]) rfl (by kernel_rfl) ?_
  have hca : CutAt b i (valN (b.take i)) := ⟨by have := List.length_pos_iff.2 hns.1.1; rw [List.length_take] at this; omega, by omega, by omega, fun j hj => by have := hns.1.2.1 j (by rw [List.length_take]; omega); rwa [bAt_take hj] at this, by omega, fun h => by have := hns.1.2.2 (by rw [bAt_take (by have := List.length_pos_iff.2 hns.1.1; rw [List.length_take] at this; omega)]; exact h); rw [List.length_take] at this; omega, rfl, by omega, by rw [← show i + 1 + n1.toNat = i + 1 + valN (b.take i) by omega]; omega⟩
  have hcr := hca.cut
  rw [List.nil_append, show ((i + 1 + n1.toNat) - ((i) + 1)) = valN (b.take i) by omega] at h162
  rw [show (((((i : Int)) + 2) + n1).toNat) = i + valN (b.take i) + 2 by omega] at h164
  exact ⟨_, rfl, (((((Chg.refl [] w).step0 h1 (by omega)).step0 c1 (by omega)).step0 c2 (by omega)).step0 c53 (by omega)), .inl ⟨_, _, _, _, rfl, hcr, h162.down (by omega), h164⟩⟩
  refine ops_add (a := ((i : Int)) + 2) (b := n1) (kd := .i64) (by kernel_rfl) (by kernel_rfl) (by kernel_rfl) (by kernel_rfl) (show (-9223372036854775808 : Int) ≤ (((i : Int)) + 2) + n1 by omega) (show (((i : Int)) + 2) + n1 ≤ (9223372036854775807 : Int) by omega) ?_
  refine ops_nil ?_
  refine nx_any trivial ?_
  refine any_from (q := 14) (listed' := (bm 18 32511)) (e := 5) (i := (((i : Int)) + 2) + n1) (kd := .i64) (((((i : Int)) + 2) + n1).toNat) panK_FB (by kernel_rfl) rfl (by kernel_rfl) (by kernel_rfl) (by kernel_rfl) (by kernel_rfl) (by kernel_rfl) (by kernel_rfl) (by kernel_rfl) (by kernel_rfl) h159 (by first | omega | (simp only [List.length_append, List.length_cons, List.length_nil, List.length_take, List.length_drop, List.length_map]; omega)) (by first | omega | (simp only [List.length_append, List.length_cons, List.length_nil, List.length_take, List.length_drop, List.length_map]; omega)) (fun v69 h166 => ?_)
  replace h166 := bs_from h166
  refine any_1 8 (bm 18 32767) (by kernel_rfl) rfl (by kernel_rfl) ?_
  refine ops_appendB (e := 5) (by_ := 1) (l1 := []) (l2 := ((b.drop ((i) + 1)).take ((i + 1 + n1.toNat) - ((i) + 1)))) (by kernel_rfl) (by kernel_rfl) (by kernel_rfl) (by kernel_rfl) (by kernel_rfl) (by kernel_rfl) (by kernel_rfl) (Own.nil w3 w3.heap.size 1 (Nat.le_refl _)) h160 (by first | omega | (simp only [List.length_append, List.length_cons, List.length_nil, List.length_take, List.length_drop, List.length_map]; omega)) (fun v70 w30 h168 c55 c56 => ?_)
  have z31 := c55.size
  refine ops_nil ?_
  refine nx_any trivial ?_
  refine any_takes [15, 16, 17] (fuel' := 0) (listed' := (bm 18 262143)) (l' := [(0, v), (2, v70), (3, v69), (4, .bool true), (5, .int .i64 ((i : Int)))]) panK_FB (by kernel_rfl) (by kernel_rfl) (by kernel_rfl) ?_
  refine any_done (by kernel_rfl) ?_
  refine nx_seq ?_
  refine at_ret (rs := [.tmp 2, .tmp 3, .tmp 4]) (vs := [v70, v69, .bool true]) rfl (by kernel_rfl) ?_
  have h169 := h166.keep0 c55 (by omega)
  have hca : CutAt b i (valN (b.take i)) := ⟨by have := List.length_pos_iff.2 hns.1.1; rw [List.length_take] at this; omega, by omega, by omega, fun j hj => by have := hns.1.2.1 j (by rw [List.length_take]; omega); rwa [bAt_take hj] at this, by omega, fun h => by have := hns.1.2.2 (by rw [bAt_take (by have := List.length_pos_iff.2 hns.1.1; rw [List.length_take] at this; omega)]; exact h); rw [List.length_take] at this; omega, rfl, by omega, by rw [← show i + 1 + n1.toNat = i + 1 + valN (b.take i) by omega]; omega⟩
  have hcr := hca.cut
  rw [List.nil_append, show ((i + 1 + n1.toNat) - ((i) + 1)) = valN (b.take i) by omega] at h168
  rw [show (((((i : Int)) + 2) + n1).toNat) = i + valN (b.take i) + 2 by omega] at h169
  exact ⟨_, rfl, (((((Chg.refl [] w).step0 h1 (by omega)).step0 c1 (by omega)).step0 c2 (by omega)).step0 c55 (by omega)), .inl ⟨_, _, _, _, rfl, hcr, h168.down (by omega), h169⟩⟩
  refine ops_add (a := ((i : Int)) + 2) (b := n1) (kd := .i64) (by kernel_rfl) (by kernel_rfl) (by kernel_rfl) (by kernel_rfl) (show (-9223372036854775808 : Int) ≤ (((i : Int)) + 2) + n1 by omega) (show (((i : Int)) + 2) + n1 ≤ (9223372036854775807 : Int) by omega) ?_
  refine ops_nil ?_
  refine nx_any trivial ?_
  have h170 := h14.keep0 c2 (by omega)
  refine any_from (q := 14) (listed' := (bm 18 32379)) (e := 5) (i := (((i : Int)) + 2) + n1) (kd := .i64) (((((i : Int)) + 2) + n1).toNat) panK_FB (by kernel_rfl) rfl (by kernel_rfl) (by kernel_rfl) (by kernel_rfl) (by kernel_rfl) (by kernel_rfl) (by kernel_rfl) (by kernel_rfl) (by kernel_rfl) h170 (by first | omega | (simp only [List.length_append, List.length_cons, List.length_nil, List.length_take, List.length_drop, List.length_map]; omega)) (by first | omega | (simp only [List.length_append, List.length_cons, List.length_nil, List.length_take, List.length_drop, List.length_map]; omega)) (fun v71 h171 => ?_)
  replace h171 := bs_from h171
  refine any_1 2 (bm 18 32383) (by kernel_rfl) rfl (by kernel_rfl) ?_
  refine ops_add (a := (i : Int)) (b := 1) (kd := .i64) (by kernel_rfl) (by kernel_rfl) (by kernel_rfl) (by kernel_rfl) (show (-9223372036854775808 : Int) ≤ ((i : Int)) + 1 by omega) (show ((i : Int)) + 1 ≤ (9223372036854775807 : Int) by omega) ?_
  refine ops_nil ?_
  refine nx_any trivial ?_
  refine any_part (q := 7) (listed' := (bm 18 32511)) (e := 5) (i := ((i : Int)) + 1) (kd := .i64) (i' := (((i : Int)) + 1) + n1) (kd' := .i64) ((i) + 1) (i + 1 + n1.toNat) panK_FB (by kernel_rfl) rfl (by kernel_rfl) (by kernel_rfl) (by kernel_rfl) (by kernel_rfl) (by kernel_rfl) (by kernel_rfl) (by kernel_rfl) (by kernel_rfl) (by kernel_rfl) h170 (by first | omega | (simp only [List.length_append, List.length_cons, List.length_nil, List.length_take, List.length_drop, List.length_map]; omega)) (by first | omega | (simp only [List.length_append, List.length_cons, List.length_nil, List.length_take, List.length_drop, List.length_map]; omega)) (by first | omega | (simp only [List.length_append, List.length_cons, List.length_nil, List.length_take, List.length_drop, List.length_map]; omega)) (by first | omega | (simp only [List.length_append, List.length_cons, List.length_nil, List.length_take, List.length_drop, List.length_map]; omega)) (fun v72 h173 => ?_)
  replace h173 := bs_part h173 (by omega)
  refine any_1 8 (bm 18 32767) (by kernel_rfl) rfl (by kernel_rfl) ?_
  refine ops_appendB (e := 5) (by_ := 1) (l1 := []) (l2 := ((b.drop ((i) + 1)).take ((i + 1 + n1.toNat) - ((i) + 1)))) (by kernel_rfl) (by kernel_rfl) (by kernel_rfl) (by kernel_rfl) (by kernel_rfl) (by kernel_rfl) (by kernel_rfl) (Own.nil w3 w3.heap.size 1 (Nat.le_refl _)) h173 (by first | omega | (simp only [List.length_append, List.length_cons, List.length_nil, List.length_take, List.length_drop, List.length_map]; omega)) (fun v73 w31 h175 c57 c58 => ?_)
  have z32 := c57.size
  refine ops_nil ?_
  refine nx_any trivial ?_
  refine any_takes [15, 16, 17] (fuel' := 0) (listed' := (bm 18 262143)) (l' := [(0, v), (2, v73), (3, v71), (4, .bool true), (5, .int .i64 ((i : Int)))]) panK_FB (by kernel_rfl) (by kernel_rfl) (by kernel_rfl) ?_
  refine any_done (by kernel_rfl) ?_
  refine nx_seq ?_
  refine at_ret (rs := [.tmp 2, .tmp 3, .tmp 4]) (vs := [v73, v71, .bool true]) rfl (by kernel_rfl) ?_
  have h176 := h171.keep0 c57 (by omega)
  have hca : CutAt b i (valN (b.take i)) := ⟨by have := List.length_pos_iff.2 hns.1.1; rw [List.length_take] at this; omega, by omega, by omega, fun j hj => by have := hns.1.2.1 j (by rw [List.length_take]; omega); rwa [bAt_take hj] at this, by omega, fun h => by have := hns.1.2.2 (by rw [bAt_take (by have := List.length_pos_iff.2 hns.1.1; rw [List.length_take] at this; omega)]; exact h); rw [List.length_take] at this; omega, rfl, by omega, by rw [← show i + 1 + n1.toNat = i + 1 + valN (b.take i) by omega]; omega⟩
  have hcr := hca.cut
  rw [List.nil_append, show ((i + 1 + n1.toNat) - ((i) + 1)) = valN (b.take i) by omega] at h175
  rw [show (((((i : Int)) + 2) + n1).toNat) = i + valN (b.take i) + 2 by omega] at h176
  exact ⟨_, rfl, (((((Chg.refl [] w).step0 h1 (by omega)).step0 c1 (by omega)).step0 c2 (by omega)).step0 c57 (by omega)), .inl ⟨_, _, _, _, rfl, hcr, h175.down (by omega), h176⟩⟩
  refine ops_add (a := ((i : Int)) + 2) (b := n1) (kd := .i64) (by kernel_rfl) (by kernel_rfl) (by kernel_rfl) (by kernel_rfl) (show (-9223372036854775808 : Int) ≤ (((i : Int)) + 2) + n1 by omega) (show (((i : Int)) + 2) + n1 ≤ (9223372036854775807 : Int) by omega) ?_
  refine ops_nil ?_
  refine nx_any trivial ?_
  have h177 := h14.keep0 c2 (by omega)
  refine any_from (q := 14) (listed' := (bm 18 32315)) (e := 5) (i := (((i : Int)) + 2) + n1) (kd := .i64) (((((i : Int)) + 2) + n1).toNat) panK_FB (by kernel_rfl) rfl (by kernel_rfl) (by kernel_rfl) (by kernel_rfl) (by kernel_rfl) (by kernel_rfl) (by kernel_rfl) (by kernel_rfl) (by kernel_rfl) h177 (by first | omega | (simp only [List.length_append, List.length_cons, List.length_nil, List.length_take, List.length_drop, List.length_map]; omega)) (by first | omega | (simp only [List.length_append, List.length_cons, List.length_nil, List.length_take, List.length_drop, List.length_map]; omega)) (fun v74 h178 => ?_)
  replace h178 := bs_from h178
  refine any_2 2 (bm 18 32319) 6 (bm 18 32379) (by kernel_rfl) rfl (by kernel_rfl) rfl (by kernel_rfl) ?_ ?_
  refine ops_add (a := (i : Int)) (b := 1) (kd := .i64) (by kernel_rfl) (by kernel_rfl) (by kernel_rfl) (by kernel_rfl) (show (-9223372036854775808 : Int) ≤ ((i : Int)) + 1 by omega) (show ((i : Int)) + 1 ≤ (9223372036854775807 : Int) by omega) ?_
  refine ops_nil ?_
  refine nx_any trivial ?_
  refine any_1 6 (bm 18 32383) (by kernel_rfl) rfl (by kernel_rfl) ?_
  refine ops_add (a := ((i : Int)) + 1) (b := n1) (kd := .i64) (by kernel_rfl) (by kernel_rfl) (by kernel_rfl) (by kernel_rfl) (show (-9223372036854775808 : Int) ≤ (((i : Int)) + 1) + n1 by omega) (show (((i : Int)) + 1) + n1 ≤ (9223372036854775807 : Int) by omega) ?_
  refine ops_nil ?_
  refine nx_any trivial ?_
  refine any_part (q := 7) (listed' := (bm 18 32511)) (e := 5) (i := ((i : Int)) + 1) (kd := .i64) (i' := (((i : Int)) + 1) + n1) (kd' := .i64) ((i) + 1) (i + 1 + n1.toNat) panK_FB (by kernel_rfl) rfl (by kernel_rfl) (by kernel_rfl) (by kernel_rfl) (by kernel_rfl) (by kernel_rfl) (by kernel_rfl) (by kernel_rfl) (by kernel_rfl) (by kernel_rfl) h177 (by first | omega | (simp only [List.length_append, List.length_cons, List.length_nil, List.length_take, List.length_drop, List.length_map]; omega)) (by first | omega | (simp only [List.length_append, List.length_cons, List.length_nil, List.length_take, List.length_drop, List.length_map]; omega)) (by first | omega | (simp only [List.length_append, List.length_cons, List.length_nil, List.length_take, List.length_drop, List.length_map]; omega)) (by first | omega | (simp only [List.length_append, List.length_cons, List.length_nil, List.length_take, List.length_drop, List.length_map]; omega)) (fun v75 h180 => ?_)
  replace h180 := bs_part h180 (by omega)
  refine any_1 8 (bm 18 32767) (by kernel_rfl) rfl (by kernel_rfl) ?_
  refine ops_appendB (e := 5) (by_ := 1) (l1 := []) (l2 := ((b.drop ((i) + 1)).take ((i + 1 + n1.toNat) - ((i) + 1)))) (by kernel_rfl) (by kernel_rfl) (by kernel_rfl) (by kernel_rfl) (by kernel_rfl) (by kernel_rfl) (by kernel_rfl) (Own.nil w3 w3.heap.size 1 (Nat.le_refl _)) h180 (by first | omega | (simp only [List.length_append, List.length_cons, List.length_nil, List.length_take, List.length_drop, List.length_map]; omega)) (fun v76 w32 h182 c59 c60 => ?_)
  have z33 := c59.size
  refine ops_nil ?_
  refine nx_any trivial ?_
  refine any_takes [15, 16, 17] (fuel' := 0) (listed' := (bm 18 262143)) (l' := [(0, v), (2, v76), (3, v74), (4, .bool true), (5, .int .i64 ((i : Int)))]) panK_FB (by kernel_rfl) (by kernel_rfl) (by kernel_rfl) ?_
  refine any_done (by kernel_rfl) ?_
  refine nx_seq ?_
  refine at_ret (rs := [.tmp 2, .tmp 3, .tmp 4]) (vs := [v76, v74, .bool true]) rfl (by kernel_rfl) ?_
  have h183 := h178.keep0 c59 (by omega)
  have hca : CutAt b i (valN (b.take i)) := ⟨by have := List.length_pos_iff.2 hns.1.1; rw [List.length_take] at this; omega, by omega, by omega, fun j hj => by have := hns.1.2.1 j (by rw [List.length_take]; omega); rwa [bAt_take hj] at this, by omega, fun h => by have := hns.1.2.2 (by rw [bAt_take (by have := List.length_pos_iff.2 hns.1.1; rw [List.length_take] at this; omega)]; exact h); rw [List.length_take] at this; omega, rfl, by omega, by rw [← show i + 1 + n1.toNat = i + 1 + valN (b.take i) by omega]; omega⟩
  have hcr := hca.cut
  rw [List.nil_append, show ((i + 1 + n1.toNat) - ((i) + 1)) = valN (b.take i) by omega] at h182
  rw [show (((((i : Int)) + 2) + n1).toNat) = i + valN (b.take i) + 2 by omega] at h183
  exact ⟨_, rfl, (((((Chg.refl [] w).step0 h1 (by omega)).step0 c1 (by omega)).step0 c2 (by omega)).step0 c59 (by omega)), .inl ⟨_, _, _, _, rfl, hcr, h182.down (by omega), h183⟩⟩
  refine ops_add (a := ((i : Int)) + 1) (b := n1) (kd := .i64) (by kernel_rfl) (by kernel_rfl) (by kernel_rfl) (by kernel_rfl) (show (-9223372036854775808 : Int) ≤ (((i : Int)) + 1) + n1 by omega) (show (((i : Int)) + 1) + n1 ≤ (9223372036854775807 : Int) by omega) ?_
  refine ops_nil ?_
  refine nx_any trivial ?_
  refine any_1 2 (bm 18 32383) (by kernel_rfl) rfl (by kernel_rfl) ?_
  refine ops_add (a := (i : Int)) (b := 1) (kd := .i64) (by kernel_rfl) (by kernel_rfl) (by kernel_rfl) (by kernel_rfl) (show (-9223372036854775808 : Int) ≤ ((i : Int)) + 1 by omega) (show ((i : Int)) + 1 ≤ (9223372036854775807 : Int) by omega) ?_
  refine ops_nil ?_
  refine nx_any trivial ?_
  refine any_part (q := 7) (listed' := (bm 18 32511)) (e := 5) (i := ((i : Int)) + 1) (kd := .i64) (i' := (((i : Int)) + 1) + n1) (kd' := .i64) ((i) + 1) (i + 1 + n1.toNat) panK_FB (by kernel_rfl) rfl (by kernel_rfl) (by kernel_rfl) (by kernel_rfl) (by kernel_rfl) (by kernel_rfl) (by kernel_rfl) (by kernel_rfl) (by kernel_rfl) (by kernel_rfl) h177 (by first | omega | (simp only [List.length_append, List.length_cons, List.length_nil, List.length_take, List.length_drop, List.length_map]; omega)) (by first | omega | (simp only [List.length_append, List.length_cons, List.length_nil, List.length_take, List.length_drop, List.length_map]; omega)) (by first | omega | (simp only [List.length_append, List.length_cons, List.length_nil, List.length_take, List.length_drop, List.length_map]; omega)) (by first | omega | (simp only [List.length_append, List.length_cons, List.length_nil, List.length_take, List.length_drop, List.length_map]; omega)) (fun v77 h184 => ?_)
  replace h184 := bs_part h184 (by omega)
  refine any_1 8 (bm 18 32767) (by kernel_rfl) rfl (by kernel_rfl) ?_
  refine ops_appendB (e := 5) (by_ := 1) (l1 := []) (l2 := ((b.drop ((i) + 1)).take ((i + 1 + n1.toNat) - ((i) + 1)))) (by kernel_rfl) (by kernel_rfl) (by kernel_rfl) (by kernel_rfl) (by kernel_rfl) (by kernel_rfl) (by kernel_rfl) (Own.nil w3 w3.heap.size 1 (Nat.le_refl _)) h184 (by first | omega | (simp only [List.length_append, List.length_cons, List.length_nil, List.length_take, List.length_drop, List.length_map]; omega)) (fun v78 w33 h186 c61 c62 => ?_)
  have z34 := c61.size
  refine ops_nil ?_
  refine nx_any trivial ?_
  refine any_takes [15, 16, 17] (fuel' := 0) (listed' := (bm 18 262143)) (l' := [(0, v), (2, v78), (3, v74), (4, .bool true), (5, .int .i64 ((i : Int)))]) panK_FB (by kernel_rfl) (by kernel_rfl) (by kernel_rfl) ?_
  refine any_done (by kernel_rfl) ?_
  refine nx_seq ?_
  refine at_ret (rs := [.tmp 2, .tmp 3, .tmp 4]) (vs := [v78, v74, .bool true]) rfl (by kernel_rfl) ?_
  have h187 := h178.keep0 c61 (by omega)
  have hca : CutAt b i (valN (b.take i)) := ⟨by have := List.length_pos_iff.2 hns.1.1; rw [List.length_take] at this; omega, by omega, by omega, fun j hj => by have := hns.1.2.1 j (by rw [List.length_take]; omega); rwa [bAt_take hj] at this, by omega, fun h => by have := hns.1.2.2 (by rw [bAt_take (by have := List.length_pos_iff.2 hns.1.1; rw [List.length_take] at this; omega)]; exact h); rw [List.length_take] at this; omega, rfl, by omega, by rw [← show i + 1 + n1.toNat = i + 1 + valN (b.take i) by omega]; omega⟩
  have hcr := hca.cut
  rw [List.nil_append, show ((i + 1 + n1.toNat) - ((i) + 1)) = valN (b.take i) by omega] at h186
  rw [show (((((i : Int)) + 2) + n1).toNat) = i + valN (b.take i) + 2 by omega] at h187
  exact ⟨_, rfl, (((((Chg.refl [] w).step0 h1 (by omega)).step0 c1 (by omega)).step0 c2 (by omega)).step0 c61 (by omega)), .inl ⟨_, _, _, _, rfl, hcr, h186.down (by omega), h187⟩⟩
  refine ops_add (a := (i : Int)) (b := 2) (kd := .i64) (by kernel_rfl) (by kernel_rfl) (by kernel_rfl) (by kernel_rfl) (show (-9223372036854775808 : Int) ≤ ((i : Int)) + 2 by omega) (show ((i : Int)) + 2 ≤ (9223372036854775807 : Int) by omega) ?_
  refine ops_nil ?_
  refine nx_any trivial ?_
  refine any_3 2 (bm 18 7727) 4 (bm 18 7739) 13 (bm 18 15915) (by kernel_rfl) rfl (by kernel_rfl) rfl (by kernel_rfl) rfl (by kernel_rfl) ?_ ?_ ?_
  refine ops_add (a := (i : Int)) (b := 1) (kd := .i64) (by kernel_rfl) (by kernel_rfl) (by kernel_rfl) (by kernel_rfl) (show (-9223372036854775808 : Int) ≤ ((i : Int)) + 1 by omega) (show ((i : Int)) + 1 ≤ (9223372036854775807 : Int) by omega) ?_
  refine ops_nil ?_
  refine nx_any trivial ?_
  refine any_2 4 (bm 18 7743) 13 (bm 18 15919) (by kernel_rfl) rfl (by kernel_rfl) rfl (by kernel_rfl) ?_ ?_
  refine ops_add (a := (i : Int)) (b := 1) (kd := .i64) (by kernel_rfl) (by kernel_rfl) (by kernel_rfl) (by kernel_rfl) (show (-9223372036854775808 : Int) ≤ ((i : Int)) + 1 by omega) (show ((i : Int)) + 1 ≤ (9223372036854775807 : Int) by omega) ?_
  refine ops_nil ?_
  refine nx_any trivial ?_
  refine any_2 6 (bm 18 7807) 13 (bm 18 15935) (by kernel_rfl) rfl (by kernel_rfl) rfl (by kernel_rfl) ?_ ?_
  refine ops_add (a := ((i : Int)) + 1) (b := n1) (kd := .i64) (by kernel_rfl) (by kernel_rfl) (by kernel_rfl) (by kernel_rfl) (show (-9223372036854775808 : Int) ≤ (((i : Int)) + 1) + n1 by omega) (show (((i : Int)) + 1) + n1 ≤ (9223372036854775807 : Int) by omega) ?_
  refine ops_nil ?_
  refine nx_any trivial ?_
  have h188 := h14.keep0 c2 (by omega)
  refine any_part (q := 7) (listed' := (bm 18 7935)) (e := 5) (i := ((i : Int)) + 1) (kd := .i64) (i' := (((i : Int)) + 1) + n1) (kd' := .i64) ((i) + 1) (i + 1 + n1.toNat) panK_FB (by kernel_rfl) rfl (by kernel_rfl) (by kernel_rfl) (by kernel_rfl) (by kernel_rfl) (by kernel_rfl) (by kernel_rfl) (by kernel_rfl) (by kernel_rfl) (by kernel_rfl) h188 (by first | omega | (simp only [List.length_append, List.length_cons, List.length_nil, List.length_take, List.length_drop, List.length_map]; omega)) (by first | omega | (simp only [List.length_append, List.length_cons, List.length_nil, List.length_take, List.length_drop, List.length_map]; omega)) (by first | omega | (simp only [List.length_append, List.length_cons, List.length_nil, List.length_take, List.length_drop, List.length_map]; omega)) (by first | omega | (simp only [List.length_append, List.length_cons, List.length_nil, List.length_take, List.length_drop, List.length_map]; omega)) (fun v79 h189 => ?_)
  replace h189 := bs_part h189 (by omega)
  refine any_2 8 (bm 18 8191) 13 (bm 18 16127) (by kernel_rfl) rfl (by kernel_rfl) rfl (by kernel_rfl) ?_ ?_
  refine ops_appendB (e := 5) (by_ := 1) (l1 := []) (l2 := ((b.drop ((i) + 1)).take ((i + 1 + n1.toNat) - ((i) + 1)))) (by kernel_rfl) (by kernel_rfl) (by kernel_rfl) (by kernel_rfl) (by kernel_rfl) (by kernel_rfl) (by kernel_rfl) (Own.nil w3 w3.heap.size 1 (Nat.le_refl _)) h189 (by first | omega | (simp only [List.length_append, List.length_cons, List.length_nil, List.length_take, List.length_drop, List.length_map]; omega)) (fun v80 w34 h191 c63 c64 => ?_)
  have z35 := c63.size
  refine ops_nil ?_
  refine nx_any trivial ?_
  refine any_takes [15] (fuel' := 4) (listed' := (bm 18 40959)) (l' := [(0, v), (2, v80), (3, .slice none 0 0), (4, .bool false), (5, .int .i64 ((i : Int))), (65, v), (67, .int .i64 (((i : Int)) + 2)), (68, .int .i64 n1)]) panK_FB (by kernel_rfl) (by kernel_rfl) (by kernel_rfl) ?_
  refine any_1 13 (bm 18 49151) (by kernel_rfl) rfl (by kernel_rfl) ?_
  refine ops_add (a := ((i : Int)) + 2) (b := n1) (kd := .i64) (by kernel_rfl) (by kernel_rfl) (by kernel_rfl) (by kernel_rfl) (show (-9223372036854775808 : Int) ≤ (((i : Int)) + 2) + n1 by omega) (show (((i : Int)) + 2) + n1 ≤ (9223372036854775807 : Int) by omega) ?_
  refine ops_nil ?_
  refine nx_any trivial ?_
  have h192 := h188.keep0 c63 (by omega)
  refine any_from (q := 14) (listed' := (bm 18 65535)) (e := 5) (i := (((i : Int)) + 2) + n1) (kd := .i64) (((((i : Int)) + 2) + n1).toNat) panK_FB (by kernel_rfl) rfl (by kernel_rfl) (by kernel_rfl) (by kernel_rfl) (by kernel_rfl) (by kernel_rfl) (by kernel_rfl) (by kernel_rfl) (by kernel_rfl) h192 (by first | omega | (simp only [List.length_append, List.length_cons, List.length_nil, List.length_take, List.length_drop, List.length_map]; omega)) (by first | omega | (simp only [List.length_append, List.length_cons, List.length_nil, List.length_take, List.length_drop, List.length_map]; omega)) (fun v81 h193 => ?_)
  replace h193 := bs_from h193
  refine any_takes [16, 17] (fuel' := 0) (listed' := (bm 18 262143)) (l' := [(0, v), (2, v80), (3, v81), (4, .bool true), (5, .int .i64 ((i : Int)))]) panK_FB (by kernel_rfl) (by kernel_rfl) (by kernel_rfl) ?_
  refine any_done (by kernel_rfl) ?_
  refine nx_seq ?_
  refine at_ret (rs := [.tmp 2, .tmp 3, .tmp 4]) (vs := [v80, v81, .bool true]) rfl (by kernel_rfl) ?_
  have hca : CutAt b i (valN (b.take i)) := ⟨by have := List.length_pos_iff.2 hns.1.1; rw [List.length_take] at this; omega, by omega, by omega, fun j hj => by have := hns.1.2.1 j (by rw [List.length_take]; omega); rwa [bAt_take hj] at this, by omega, fun h => by have := hns.1.2.2 (by rw [bAt_take (by have := List.length_pos_iff.2 hns.1.1; rw [List.length_take] at this; omega)]; exact h); rw [List.length_take] at this; omega, rfl, by omega, by rw [← show i + 1 + n1.toNat = i + 1 + valN (b.take i) by omega]; omega⟩
  have hcr := hca.cut
  rw [List.nil_append, show ((i + 1 + n1.toNat) - ((i) + 1)) = valN (b.take i) by omega] at h191
  rw [show (((((i : Int)) + 2) + n1).toNat) = i + valN (b.take i) + 2 by omega] at h193
  exact ⟨_, rfl, (((((Chg.refl [] w).step0 h1 (by omega)).step0 c1 (by omega)).step0 c2 (by omega)).step0 c63 (by omega)), .inl ⟨_, _, _, _, rfl, hcr, h191.down (by omega), h193⟩⟩
  refine ops_add (a := ((i : Int)) + 2) (b := n1) (kd := .i64) (by kernel_rfl) (by kernel_rfl) (by kernel_rfl) (by kernel_rfl) (show (-9223372036854775808 : Int) ≤ (((i : Int)) + 2) + n1 by omega) (show (((i : Int)) + 2) + n1 ≤ (9223372036854775807 : Int) by omega) ?_
  refine ops_nil ?_
  refine nx_any trivial ?_
  refine any_from (q := 14) (listed' := (bm 18 32511)) (e := 5) (i := (((i : Int)) + 2) + n1) (kd := .i64) (((((i : Int)) + 2) + n1).toNat) panK_FB (by kernel_rfl) rfl (by kernel_rfl) (by kernel_rfl) (by kernel_rfl) (by kernel_rfl) (by kernel_rfl) (by kernel_rfl) (by kernel_rfl) (by kernel_rfl) h188 (by first | omega | (simp only [List.length_append, List.length_cons, List.length_nil, List.length_take, List.length_drop, List.length_map]; omega)) (by first | omega | (simp only [List.length_append, List.length_cons, List.length_nil, List.length_take, List.length_drop, List.length_map]; omega)) (fun v82 h195 => ?_)
  replace h195 := bs_from h195
  refine any_1 8 (bm 18 32767) (by kernel_rfl) rfl (by kernel_rfl) ?_
  refine ops_appendB (e := 5) (by_ := 1) (l1 := []) (l2 := ((b.drop ((i) + 1)).take ((i + 1 + n1.toNat) - ((i) + 1)))) (by kernel_rfl) (by kernel_rfl) (by kernel_rfl) (by kernel_rfl) (by kernel_rfl) (by kernel_rfl) (by kernel_rfl) (Own.nil w3 w3.heap.size 1 (Nat.le_refl _)) h189 (by first | omega | (simp only [List.length_append, List.length_cons, List.length_nil, List.length_take, List.length_drop, List.length_map]; omega)) (fun v83 w35 h197 c65 c66 => ?_)
  have z36 := c65.size
  refine ops_nil ?_
  refine nx_any trivial ?_
  refine any_takes [15, 16, 17] (fuel' := 0) (listed' := (bm 18 262143)) (l' := [(0, v), (2, v83), (3, v82), (4, .bool true), (5, .int .i64 ((i : Int)))]) panK_FB (by kernel_rfl) (by kernel_rfl) (by kernel_rfl) ?_
  refine any_done (by kernel_rfl) ?_
  refine nx_seq ?_
  refine at_ret (rs := [.tmp 2, .tmp 3, .tmp 4]) (vs := [v83, v82, .bool true]) rfl (by kernel_rfl) ?_
  have h198 := h195.keep0 c65 (by omega)
  have hca : CutAt b i (valN (b.take i)) := ⟨by have := List.length_pos_iff.2 hns.1.1; rw [List.length_take] at this; omega, by omega, by omega, fun j hj => by have := hns.1.2.1 j (by rw [List.length_take]; omega); rwa [bAt_take hj] at this, by omega, fun h => by have := hns.1.2.2 (by rw [bAt_take (by have := List.length_pos_iff.2 hns.1.1; rw [List.length_take] at this; omega)]; exact h); rw [List.length_take] at this; omega, rfl, by omega, by rw [← show i + 1 + n1.toNat = i + 1 + valN (b.take i) by omega]; omega⟩
  have hcr := hca.cut
  rw [List.nil_append, show ((i + 1 + n1.toNat) - ((i) + 1)) = valN (b.take i) by omega] at h197
  rw [show (((((i : Int)) + 2) + n1).toNat) = i + valN (b.take i) + 2 by omega] at h198
  exact ⟨_, rfl, (((((Chg.refl [] w).step0 h1 (by omega)).step0 c1 (by omega)).step0 c2 (by omega)).step0 c65 (by omega)), .inl ⟨_, _, _, _, rfl, hcr, h197.down (by omega), h198⟩⟩
  refine ops_add (a := ((i : Int)) + 2) (b := n1) (kd := .i64) (by kernel_rfl) (by kernel_rfl) (by kernel_rfl) (by kernel_rfl) (show (-9223372036854775808 : Int) ≤ (((i : Int)) + 2) + n1 by omega) (show (((i : Int)) + 2) + n1 ≤ (9223372036854775807 : Int) by omega) ?_
  refine ops_nil ?_
  refine nx_any trivial ?_
  have h199 := h14.keep0 c2 (by omega)
  refine any_from (q := 14) (listed' := (bm 18 32319)) (e := 5) (i := (((i : Int)) + 2) + n1) (kd := .i64) (((((i : Int)) + 2) + n1).toNat) panK_FB (by kernel_rfl) rfl (by kernel_rfl) (by kernel_rfl) (by kernel_rfl) (by kernel_rfl) (by kernel_rfl) (by kernel_rfl) (by kernel_rfl) (by kernel_rfl) h199 (by first | omega | (simp only [List.length_append, List.length_cons, List.length_nil, List.length_take, List.length_drop, List.length_map]; omega)) (by first | omega | (simp only [List.length_append, List.length_cons, List.length_nil, List.length_take, List.length_drop, List.length_map]; omega)) (fun v84 h200 => ?_)
  replace h200 := bs_from h200
  refine any_1 6 (bm 18 32383) (by kernel_rfl) rfl (by kernel_rfl) ?_
  refine ops_add (a := ((i : Int)) + 1) (b := n1) (kd := .i64) (by kernel_rfl) (by kernel_rfl) (by kernel_rfl) (by kernel_rfl) (show (-9223372036854775808 : Int) ≤ (((i : Int)) + 1) + n1 by omega) (show (((i : Int)) + 1) + n1 ≤ (9223372036854775807 : Int) by omega) ?_
  refine ops_nil ?_
  refine nx_any trivial ?_
  refine any_part (q := 7) (listed' := (bm 18 32511)) (e := 5) (i := ((i : Int)) + 1) (kd := .i64) (i' := (((i : Int)) + 1) + n1) (kd' := .i64) ((i) + 1) (i + 1 + n1.toNat) panK_FB (by kernel_rfl) rfl (by kernel_rfl) (by kernel_rfl) (by kernel_rfl) (by kernel_rfl) (by kernel_rfl) (by kernel_rfl) (by kernel_rfl) (by kernel_rfl) (by kernel_rfl) h199 (by first | omega | (simp only [List.length_append, List.length_cons, List.length_nil, List.length_take, List.length_drop, List.length_map]; omega)) (by first | omega | (simp only [List.length_append, List.length_cons, List.length_nil, List.length_take, List.length_drop, List.length_map]; omega)) (by first | omega | (simp only [List.length_append, List.length_cons, List.length_nil, List.length_take, List.length_drop, List.length_map]; omega)) (by first | omega | (simp only [List.length_append, List.length_cons, List.length_nil, List.length_take, List.length_drop, List.length_map]; omega)) (fun v85 h202 => ?_)
  replace h202 := bs_part h202 (by omega)
  refine any_1 8 (bm 18 32767) (by kernel_rfl) rfl (by kernel_rfl) ?_
  refine ops_appendB (e := 5) (by_ := 1) (l1 := []) (l2 := ((b.drop ((i) + 1)).take ((i + 1 + n1.toNat) - ((i) + 1)))) (by kernel_rfl) (by kernel_rfl) (by kernel_rfl) (by kernel_rfl) (by kernel_rfl) (by kernel_rfl) (by kernel_rfl) (Own.nil w3 w3.heap.size 1 (Nat.le_refl _)) h202 (by first | omega | (simp only [List.length_append, List.length_cons, List.length_nil, List.length_take, List.length_drop, List.length_map]; omega)) (fun v86 w36 h204 c67 c68 => ?_)
  have z37 := c67.size
  refine ops_nil ?_
  refine nx_any trivial ?_
  refine any_takes [15, 16, 17] (fuel' := 0) (listed' := (bm 18 262143)) (l' := [(0, v), (2, v86), (3, v84), (4, .bool true), (5, .int .i64 ((i : Int)))]) panK_FB (by kernel_rfl) (by kernel_rfl) (by kernel_rfl) ?_
  refine any_done (by kernel_rfl) ?_
  refine nx_seq ?_
  refine at_ret (rs := [.tmp 2, .tmp 3, .tmp 4]) (vs := [v86, v84, .bool true]) rfl (by kernel_rfl) ?_
  have h205 := h200.keep0 c67 (by omega)
  have hca : CutAt b i (valN (b.take i)) := ⟨by have := List.length_pos_iff.2 hns.1.1; rw [List.length_take] at this; omega, by omega, by omega, fun j hj => by have := hns.1.2.1 j (by rw [List.length_take]; omega); rwa [bAt_take hj] at this, by omega, fun h => by have := hns.1.2.2 (by rw [bAt_take (by have := List.length_pos_iff.2 hns.1.1; rw [List.length_take] at this; omega)]; exact h); rw [List.length_take] at this; omega, rfl, by omega, by rw [← show i + 1 + n1.toNat = i + 1 + valN (b.take i) by omega]; omega⟩
  have hcr := hca.cut
  rw [List.nil_append, show ((i + 1 + n1.toNat) - ((i) + 1)) = valN (b.take i) by omega] at h204
  rw [show (((((i : Int)) + 2) + n1).toNat) = i + valN (b.take i) + 2 by omega] at h205
  exact ⟨_, rfl, (((((Chg.refl [] w).step0 h1 (by omega)).step0 c1 (by omega)).step0 c2 (by omega)).step0 c67 (by omega)), .inl ⟨_, _, _, _, rfl, hcr, h204.down (by omega), h205⟩⟩
  refine ops_add (a := ((i : Int)) + 2) (b := n1) (kd := .i64) (by kernel_rfl) (by kernel_rfl) (by kernel_rfl) (by kernel_rfl) (show (-9223372036854775808 : Int) ≤ (((i : Int)) + 2) + n1 by omega) (show (((i : Int)) + 2) + n1 ≤ (9223372036854775807 : Int) by omega) ?_
  refine ops_nil ?_
  refine nx_any trivial ?_
  have h206 := h14.keep0 c2 (by omega)
  refine any_from (q := 14) (listed' := (bm 18 32303)) (e := 5) (i := (((i : Int)) + 2) + n1) (kd := .i64) (((((i : Int)) + 2) + n1).toNat) panK_FB (by kernel_rfl) rfl (by kernel_rfl) (by kernel_rfl) (by kernel_rfl) (by kernel_rfl) (by kernel_rfl) (by kernel_rfl) (by kernel_rfl) (by kernel_rfl) h206 (by first | omega | (simp only [List.length_append, List.length_cons, List.length_nil, List.length_take, List.length_drop, List.length_map]; omega)) (by first | omega | (simp only [List.length_append, List.length_cons, List.length_nil, List.length_take, List.length_drop, List.length_map]; omega)) (fun v87 h207 => ?_)
  replace h207 := bs_from h207
  refine any_1 4 (bm 18 32319) (by kernel_rfl) rfl (by kernel_rfl) ?_
  refine ops_add (a := (i : Int)) (b := 1) (kd := .i64) (by kernel_rfl) (by kernel_rfl) (by kernel_rfl) (by kernel_rfl) (show (-9223372036854775808 : Int) ≤ ((i : Int)) + 1 by omega) (show ((i : Int)) + 1 ≤ (9223372036854775807 : Int) by omega) ?_
  refine ops_nil ?_
  refine nx_any trivial ?_
  refine any_1 6 (bm 18 32383) (by kernel_rfl) rfl (by kernel_rfl) ?_
  refine ops_add (a := ((i : Int)) + 1) (b := n1) (kd := .i64) (by kernel_rfl) (by kernel_rfl) (by kernel_rfl) (by kernel_rfl) (show (-9223372036854775808 : Int) ≤ (((i : Int)) + 1) + n1 by omega) (show (((i : Int)) + 1) + n1 ≤ (9223372036854775807 : Int) by omega) ?_
  refine ops_nil ?_
  refine nx_any trivial ?_
  refine any_part (q := 7) (listed' := (bm 18 32511)) (e := 5) (i := ((i : Int)) + 1) (kd := .i64) (i' := (((i : Int)) + 1) + n1) (kd' := .i64) ((i) + 1) (i + 1 + n1.toNat) panK_FB (by kernel_rfl) rfl (by kernel_rfl) (by kernel_rfl) (by kernel_rfl) (by kernel_rfl) (by kernel_rfl) (by kernel_rfl) (by kernel_rfl) (by kernel_rfl) (by kernel_rfl) h206 (by first | omega | (simp only [List.length_append, List.length_cons, List.length_nil, List.length_take, List.length_drop, List.length_map]; omega)) (by first | omega | (simp only [List.length_append, List.length_cons, List.length_nil, List.length_take, List.length_drop, List.length_map]; omega)) (by first | omega | (simp only [List.length_append, List.length_cons, List.length_nil, List.length_take, List.length_drop, List.length_map]; omega)) (by first | omega | (simp only [List.length_append, List.length_cons, List.length_nil, List.length_take, List.length_drop, List.length_map]; omega)) (fun v88 h209 => ?_)
  replace h209 := bs_part h209 (by omega)
  refine any_1 8 (bm 18 32767) (by kernel_rfl) rfl (by kernel_rfl) ?_
  refine ops_appendB (e := 5) (by_ := 1) (l1 := []) (l2 := ((b.drop ((i) + 1)).take ((i + 1 + n1.toNat) - ((i) + 1)))) (by kernel_rfl) (by kernel_rfl) (by kernel_rfl) (by kernel_rfl) (by kernel_rfl) (by kernel_rfl) (by kernel_rfl) (Own.nil w3 w3.heap.size 1 (Nat.le_refl _)) h209 (by first | omega | (simp only [List.length_append, List.length_cons, List.length_nil, List.length_take, List.length_drop, List.length_map]; omega)) (fun v89 w37 h211 c69 c70 => ?_)
  have z38 := c69.size
  refine ops_nil ?_
  refine nx_any trivial ?_
  refine any_takes [15, 16, 17] (fuel' := 0) (listed' := (bm 18 262143)) (l' := [(0, v), (2, v89), (3, v87), (4, .bool true), (5, .int .i64 ((i : Int)))]) panK_FB (by kernel_rfl) (by kernel_rfl) (by kernel_rfl) ?_
  refine any_done (by kernel_rfl) ?_
  refine nx_seq ?_
  refine at_ret (rs := [.tmp 2, .tmp 3, .tmp 4]) (vs := [v89, v87, .bool true]) rfl (by kernel_rfl) ?_
  have h212 := h207.keep0 c69 (by omega)
  have hca : CutAt b i (valN (b.take i)) := ⟨by have := List.length_pos_iff.2 hns.1.1; rw [List.length_take] at this; omega, by omega, by omega, fun j hj => by have := hns.1.2.1 j (by rw [List.length_take]; omega); rwa [bAt_take hj] at this, by omega, fun h => by have := hns.1.2.2 (by rw [bAt_take (by have := List.length_pos_iff.2 hns.1.1; rw [List.length_take] at this; omega)]; exact h); rw [List.length_take] at this; omega, rfl, by omega, by rw [← show i + 1 + n1.toNat = i + 1 + valN (b.take i) by omega]; omega⟩
  have hcr := hca.cut
  rw [List.nil_append, show ((i + 1 + n1.toNat) - ((i) + 1)) = valN (b.take i) by omega] at h211
  rw [show (((((i : Int)) + 2) + n1).toNat) = i + valN (b.take i) + 2 by omega] at h212
  exact ⟨_, rfl, (((((Chg.refl [] w).step0 h1 (by omega)).step0 c1 (by omega)).step0 c2 (by omega)).step0 c69 (by omega)), .inl ⟨_, _, _, _, rfl, hcr, h211.down (by omega), h212⟩⟩
  refine ops_add (a := (i : Int)) (b := 1) (kd := .i64) (by kernel_rfl) (by kernel_rfl) (by kernel_rfl) (by kernel_rfl) (show (-9223372036854775808 : Int) ≤ ((i : Int)) + 1 by omega) (show ((i : Int)) + 1 ≤ (9223372036854775807 : Int) by omega) ?_
  refine ops_nil ?_
  refine nx_any trivial ?_
  refine any_3 2 (bm 18 7743) 6 (bm 18 7803) 13 (bm 18 15931) (by kernel_rfl) rfl (by kernel_rfl) rfl (by kernel_rfl) rfl (by kernel_rfl) ?_ ?_ ?_
  refine ops_add (a := (i : Int)) (b := 1) (kd := .i64) (by kernel_rfl) (by kernel_rfl) (by kernel_rfl) (by kernel_rfl) (show (-9223372036854775808 : Int) ≤ ((i : Int)) + 1 by omega) (show ((i : Int)) + 1 ≤ (9223372036854775807 : Int) by omega) ?_
  refine ops_nil ?_
  refine nx_any trivial ?_
  refine any_2 6 (bm 18 7807) 13 (bm 18 15935) (by kernel_rfl) rfl (by kernel_rfl) rfl (by kernel_rfl) ?_ ?_
  refine ops_add (a := ((i : Int)) + 1) (b := n1) (kd := .i64) (by kernel_rfl) (by kernel_rfl) (by kernel_rfl) (by kernel_rfl) (show (-9223372036854775808 : Int) ≤ (((i : Int)) + 1) + n1 by omega) (show (((i : Int)) + 1) + n1 ≤ (9223372036854775807 : Int) by omega) ?_
  refine ops_nil ?_
  refine nx_any trivial ?_
  have h213 := h14.keep0 c2 (by omega)
  refine any_part (q := 7) (listed' := (bm 18 7935)) (e := 5) (i := ((i : Int)) + 1) (kd := .i64) (i' := (((i : Int)) + 1) + n1) (kd' := .i64) ((i) + 1) (i + 1 + n1.toNat) panK_FB (by kernel_rfl) rfl (by kernel_rfl) (by kernel_rfl) (by kernel_rfl) (by kernel_rfl) (by kernel_rfl) (by kernel_rfl) (by kernel_rfl) (by kernel_rfl) (by kernel_rfl) h213 (by first | omega | (simp only [List.length_append, List.length_cons, List.length_nil, List.length_take, List.length_drop, List.length_map]; omega)) (by first | omega | (simp only [List.length_append, List.length_cons, List.length_nil, List.length_take, List.length_drop, List.length_map]; omega)) (by first | omega | (simp only [List.length_append, List.length_cons, List.length_nil, List.length_take, List.length_drop, List.length_map]; omega)) (by first | omega | (simp only [List.length_append, List.length_cons, List.length_nil, List.length_take, List.length_drop, List.length_map]; omega)) (fun v90 h214 => ?_)
  replace h214 := bs_part h214 (by omega)
  refine any_2 8 (bm 18 8191) 13 (bm 18 16127) (by kernel_rfl) rfl (by kernel_rfl) rfl (by kernel_rfl) ?_ ?_
  refine ops_appendB (e := 5) (by_ := 1) (l1 := []) (l2 := ((b.drop ((i) + 1)).take ((i + 1 + n1.toNat) - ((i) + 1)))) (by kernel_rfl) (by kernel_rfl) (by kernel_rfl) (by kernel_rfl) (by kernel_rfl) (by kernel_rfl) (by kernel_rfl) (Own.nil w3 w3.heap.size 1 (Nat.le_refl _)) h214 (by first | omega | (simp only [List.length_append, List.length_cons, List.length_nil, List.length_take, List.length_drop, List.length_map]; omega)) (fun v91 w38 h216 c71 c72 => ?_)
  have z39 := c71.size
  refine ops_nil ?_
  refine nx_any trivial ?_
  refine any_takes [15] (fuel' := 4) (listed' := (bm 18 40959)) (l' := [(0, v), (2, v91), (3, .slice none 0 0), (4, .bool false), (5, .int .i64 ((i : Int))), (65, v), (67, .int .i64 (((i : Int)) + 2)), (68, .int .i64 n1)]) panK_FB (by kernel_rfl) (by kernel_rfl) (by kernel_rfl) ?_
  refine any_1 13 (bm 18 49151) (by kernel_rfl) rfl (by kernel_rfl) ?_
  refine ops_add (a := ((i : Int)) + 2) (b := n1) (kd := .i64) (by kernel_rfl) (by kernel_rfl) (by kernel_rfl) (by kernel_rfl) (show (-9223372036854775808 : Int) ≤ (((i : Int)) + 2) + n1 by omega) (show (((i : Int)) + 2) + n1 ≤ (9223372036854775807 : Int) by omega) ?_
  refine ops_nil ?_
  refine nx_any trivial ?_
  have h217 := h213.keep0 c71 (by omega)
  refine any_from (q := 14) (listed' := (bm 18 65535)) (e := 5) (i := (((i : Int)) + 2) + n1) (kd := .i64) (((((i : Int)) + 2) + n1).toNat) panK_FB (by kernel_rfl) rfl (by kernel_rfl) (by kernel_rfl) (by kernel_rfl) (by kernel_rfl) (by kernel_rfl) (by kernel_rfl) (by kernel_rfl) (by kernel_rfl) h217 (by first | omega | (simp only [List.length_append, List.length_cons, List.length_nil, List.length_take, List.length_drop, List.length_map]; omega)) (by first | omega | (simp only [List.length_append, List.length_cons, List.length_nil, List.length_take, List.length_drop, List.length_map]; omega)) (fun v92 h218 => ?_)
  replace h218 := bs_from h218
  refine any_takes [16, 17] (fuel' := 0) (listed' := (bm 18 262143)) (l' := [(0, v), (2, v91), (3, v92), (4, .bool true), (5, .int .i64 ((i : Int)))]) panK_FB (by kernel_rfl) (by kernel_rfl) (by kernel_rfl) ?_
  refine any_done (by kernel_rfl) ?_
  refine nx_seq ?_
  refine at_ret (rs := [.tmp 2, .tmp 3, .tmp 4]) (vs := [v91, v92, .bool true]) rfl (by kernel_rfl) ?_
  have hca : CutAt b i (valN (b.take i)) := ⟨by have := List.length_pos_iff.2 hns.1.1; rw [List.length_take] at this; omega, by omega, by omega, fun j hj => by have := hns.1.2.1 j (by rw [List.length_take]; omega); rwa [bAt_take hj] at this, by omega, fun h => by have := hns.1.2.2 (by rw [bAt_take (by have := List.length_pos_iff.2 hns.1.1; rw [List.length_take] at this; omega)]; exact h); rw [List.length_take] at this; omega, rfl, by omega, by rw [← show i + 1 + n1.toNat = i + 1 + valN (b.take i) by omega]; omega⟩
  have hcr := hca.cut
  rw [List.nil_append, show ((i + 1 + n1.toNat) - ((i) + 1)) = valN (b.take i) by omega] at h216
  rw [show (((((i : Int)) + 2) + n1).toNat) = i + valN (b.take i) + 2 by omega] at h218
  exact ⟨_, rfl, (((((Chg.refl [] w).step0 h1 (by omega)).step0 c1 (by omega)).step0 c2 (by omega)).step0 c71 (by omega)), .inl ⟨_, _, _, _, rfl, hcr, h216.down (by omega), h218⟩⟩
  refine ops_add (a := ((i : Int)) + 2) (b := n1) (kd := .i64) (by kernel_rfl) (by kernel_rfl) (by kernel_rfl) (by kernel_rfl) (show (-9223372036854775808 : Int) ≤ (((i : Int)) + 2) + n1 by omega) (show (((i : Int)) + 2) + n1 ≤ (9223372036854775807 : Int) by omega) ?_
  refine ops_nil ?_
  refine nx_any trivial ?_
  refine any_from (q := 14) (listed' := (bm 18 32511)) (e := 5) (i := (((i : Int)) + 2) + n1) (kd := .i64) (((((i : Int)) + 2) + n1).toNat) panK_FB (by kernel_rfl) rfl (by kernel_rfl) (by kernel_rfl) (by kernel_rfl) (by kernel_rfl) (by kernel_rfl) (by kernel_rfl) (by kernel_rfl) (by kernel_rfl) h213 (by first | omega | (simp only [List.length_append, List.length_cons, List.length_nil, List.length_take, List.length_drop, List.length_map]; omega)) (by first | omega | (simp only [List.length_append, List.length_cons, List.length_nil, List.length_take, List.length_drop, List.length_map]; omega)) (fun v93 h220 => ?_)
  replace h220 := bs_from h220
  refine any_1 8 (bm 18 32767) (by kernel_rfl) rfl (by kernel_rfl) ?_
  refine ops_appendB (e := 5) (by_ := 1) (l1 := []) (l2 := ((b.drop ((i) + 1)).take ((i + 1 + n1.toNat) - ((i) + 1)))) (by kernel_rfl) (by kernel_rfl) (by kernel_rfl) (by kernel_rfl) (by kernel_rfl) (by kernel_rfl) (by kernel_rfl) (Own.nil w3 w3.heap.size 1 (Nat.le_refl _)) h214 (by first | omega | (simp only [List.length_append, List.length_cons, List.length_nil, List.length_take, List.length_drop, List.length_map]; omega)) (fun v94 w39 h222 c73 c74 => ?_)
  have z40 := c73.size
  refine ops_nil ?_
  refine nx_any trivial ?_
  refine any_takes [15, 16, 17] (fuel' := 0) (listed' := (bm 18 262143)) (l' := [(0, v), (2, v94), (3, v93), (4, .bool true), (5, .int .i64 ((i : Int)))]) panK_FB (by kernel_rfl) (by kernel_rfl) (by kernel_rfl) ?_
  refine any_done (by kernel_rfl) ?_
  refine nx_seq ?_
  refine at_ret (rs := [.tmp 2, .tmp 3, .tmp 4]) (vs := [v94, v93, .bool true]) rfl (by kernel_rfl) ?_
  have h223 := h220.keep0 c73 (by omega)
  have hca : CutAt b i (valN (b.take i)) := ⟨by have := List.length_pos_iff.2 hns.1.1; rw [List.length_take] at this; omega, by omega, by omega, fun j hj => by have := hns.1.2.1 j (by rw [List.length_take]; omega); rwa [bAt_take hj] at this, by omega, fun h => by have := hns.1.2.2 (by rw [bAt_take (by have := List.length_pos_iff.2 hns.1.1; rw [List.length_take] at this; omega)]; exact h); rw [List.length_take] at this; omega, rfl, by omega, by rw [← show i + 1 + n1.toNat = i + 1 + valN (b.take i) by omega]; omega⟩
  have hcr := hca.cut
  rw [List.nil_append, show ((i + 1 + n1.toNat) - ((i) + 1)) = valN (b.take i) by omega] at h222
  rw [show (((((i : Int)) + 2) + n1).toNat) = i + valN (b.take i) + 2 by omega] at h223
  exact ⟨_, rfl, (((((Chg.refl [] w).step0 h1 (by omega)).step0 c1 (by omega)).step0 c2 (by omega)).step0 c73 (by omega)), .inl ⟨_, _, _, _, rfl, hcr, h222.down (by omega), h223⟩⟩
  refine ops_add (a := ((i : Int)) + 2) (b := n1) (kd := .i64) (by kernel_rfl) (by kernel_rfl) (by kernel_rfl) (by kernel_rfl) (show (-9223372036854775808 : Int) ≤ (((i : Int)) + 2) + n1 by omega) (show (((i : Int)) + 2) + n1 ≤ (9223372036854775807 : Int) by omega) ?_
  refine ops_nil ?_
  refine nx_any trivial ?_
  have h224 := h14.keep0 c2 (by omega)
  refine any_from (q := 14) (listed' := (bm 18 32319)) (e := 5) (i := (((i : Int)) + 2) + n1) (kd := .i64) (((((i : Int)) + 2) + n1).toNat) panK_FB (by kernel_rfl) rfl (by kernel_rfl) (by kernel_rfl) (by kernel_rfl) (by kernel_rfl) (by kernel_rfl) (by kernel_rfl) (by kernel_rfl) (by kernel_rfl) h224 (by first | omega | (simp only [List.length_append, List.length_cons, List.length_nil, List.length_take, List.length_drop, List.length_map]; omega)) (by first | omega | (simp only [List.length_append, List.length_cons, List.length_nil, List.length_take, List.length_drop, List.length_map]; omega)) (fun v95 h225 => ?_)
  replace h225 := bs_from h225
  refine any_1 6 (bm 18 32383) (by kernel_rfl) rfl (by kernel_rfl) ?_
  refine ops_add (a := ((i : Int)) + 1) (b := n1) (kd := .i64) (by kernel_rfl) (by kernel_rfl) (by kernel_rfl) (by kernel_rfl) (show (-9223372036854775808 : Int) ≤ (((i : Int)) + 1) + n1 by omega) (show (((i : Int)) + 1) + n1 ≤ (9223372036854775807 : Int) by omega) ?_
  refine ops_nil ?_
  refine nx_any trivial ?_
  refine any_part (q := 7) (listed' := (bm 18 32511)) (e := 5) (i := ((i : Int)) + 1) (kd := .i64) (i' := (((i : Int)) + 1) + n1) (kd' := .i64) ((i) + 1) (i + 1 + n1.toNat) panK_FB (by kernel_rfl) rfl (by kernel_rfl) (by kernel_rfl) (by kernel_rfl) (by kernel_rfl) (by kernel_rfl) (by kernel_rfl) (by kernel_rfl) (by kernel_rfl) (by kernel_rfl) h224 (by first | omega | (simp only [List.length_append, List.length_cons, List.length_nil, List.length_take, List.length_drop, List.length_map]; omega)) (by first | omega | (simp only [List.length_append, List.length_cons, List.length_nil, List.length_take, List.length_drop, List.length_map]; omega)) (by first | omega | (simp only [List.length_append, List.length_cons, List.length_nil, List.length_take, List.length_drop, List.length_map]; omega)) (by first | omega | (simp only [List.length_append, List.length_cons, List.length_nil, List.length_take, List.length_drop, List.length_map]; omega)) (fun v96 h227 => ?_)
  replace h227 := bs_part h227 (by omega)
  refine any_1 8 (bm 18 32767) (by kernel_rfl) rfl (by kernel_rfl) ?_
  refine ops_appendB (e := 5) (by_ := 1) (l1 := []) (l2 := ((b.drop ((i) + 1)).take ((i + 1 + n1.toNat) - ((i) + 1)))) (by kernel_rfl) (by kernel_rfl) (by kernel_rfl) (by kernel_rfl) (by kernel_rfl) (by kernel_rfl) (by kernel_rfl) (Own.nil w3 w3.heap.size 1 (Nat.le_refl _)) h227 (by first | omega | (simp only [List.length_append, List.length_cons, List.length_nil, List.length_take, List.length_drop, List.length_map]; omega)) (fun v97 w40 h229 c75 c76 => ?_)
  have z41 := c75.size
  refine ops_nil ?_
  refine nx_any trivial ?_
  refine any_takes [15, 16, 17] (fuel' := 0) (listed' := (bm 18 262143)) (l' := [(0, v), (2, v97), (3, v95), (4, .bool true), (5, .int .i64 ((i : Int)))]) panK_FB (by kernel_rfl) (by kernel_rfl) (by kernel_rfl) ?_
  refine any_done (by kernel_rfl) ?_
  refine nx_seq ?_
  refine at_ret (rs := [.tmp 2, .tmp 3, .tmp 4]) (vs := [v97, v95, .bool true]) rfl (by kernel_rfl) ?_
  have h230 := h225.keep0 c75 (by omega)
  have hca : CutAt b i (valN (b.take i)) := ⟨by have := List.length_pos_iff.2 hns.1.1; rw [List.length_take] at this; omega, by omega, by omega, fun j hj => by have := hns.1.2.1 j (by rw [List.length_take]; omega); rwa [bAt_take hj] at this, by omega, fun h => by have := hns.1.2.2 (by rw [bAt_take (by have := List.length_pos_iff.2 hns.1.1; rw [List.length_take] at this; omega)]; exact h); rw [List.length_take] at this; omega, rfl, by omega, by rw [← show i + 1 + n1.toNat = i + 1 + valN (b.take i) by omega]; omega⟩
  have hcr := hca.cut
  rw [List.nil_append, show ((i + 1 + n1.toNat) - ((i) + 1)) = valN (b.take i) by omega] at h229
  rw [show (((((i : Int)) + 2) + n1).toNat) = i + valN (b.take i) + 2 by omega] at h230
  exact ⟨_, rfl, (((((Chg.refl [] w).step0 h1 (by omega)).step0 c1 (by omega)).step0 c2 (by omega)).step0 c75 (by omega)), .inl ⟨_, _, _, _, rfl, hcr, h229.down (by omega), h230⟩⟩
  refine ops_add (a := ((i : Int)) + 1) (b := n1) (kd := .i64) (by kernel_rfl) (by kernel_rfl) (by kernel_rfl) (by kernel_rfl) (show (-9223372036854775808 : Int) ≤ (((i : Int)) + 1) + n1 by omega) (show (((i : Int)) + 1) + n1 ≤ (9223372036854775807 : Int) by omega) ?_
  refine ops_nil ?_
  refine nx_any trivial ?_
  refine any_2 2 (bm 18 7807) 13 (bm 18 15995) (by kernel_rfl) rfl (by kernel_rfl) rfl (by kernel_rfl) ?_ ?_
  refine ops_add (a := (i : Int)) (b := 1) (kd := .i64) (by kernel_rfl) (by kernel_rfl) (by kernel_rfl) (by kernel_rfl) (show (-9223372036854775808 : Int) ≤ ((i : Int)) + 1 by omega) (show ((i : Int)) + 1 ≤ (9223372036854775807 : Int) by omega) ?_
  refine ops_nil ?_
  refine nx_any trivial ?_
  have h231 := h14.keep0 c2 (by omega)
  refine any_part (q := 7) (listed' := (bm 18 7935)) (e := 5) (i := ((i : Int)) + 1) (kd := .i64) (i' := (((i : Int)) + 1) + n1) (kd' := .i64) ((i) + 1) (i + 1 + n1.toNat) panK_FB (by kernel_rfl) rfl (by kernel_rfl) (by kernel_rfl) (by kernel_rfl) (by kernel_rfl) (by kernel_rfl) (by kernel_rfl) (by kernel_rfl) (by kernel_rfl) (by kernel_rfl) h231 (by first | omega | (simp only [List.length_append, List.length_cons, List.length_nil, List.length_take, List.length_drop, List.length_map]; omega)) (by first | omega | (simp only [List.length_append, List.length_cons, List.length_nil, List.length_take, List.length_drop, List.length_map]; omega)) (by first | omega | (simp only [List.length_append, List.length_cons, List.length_nil, List.length_take, List.length_drop, List.length_map]; omega)) (by first | omega | (simp only [List.length_append, List.length_cons, List.length_nil, List.length_take, List.length_drop, List.length_map]; omega)) (fun v98 h232 => ?_)
  replace h232 := bs_part h232 (by omega)
  refine any_2 8 (bm 18 8191) 13 (bm 18 16127) (by kernel_rfl) rfl (by kernel_rfl) rfl (by kernel_rfl) ?_ ?_
  refine ops_appendB (e := 5) (by_ := 1) (l1 := []) (l2 := ((b.drop ((i) + 1)).take ((i + 1 + n1.toNat) - ((i) + 1)))) (by kernel_rfl) (by kernel_rfl) (by kernel_rfl) (by kernel_rfl) (by kernel_rfl) (by kernel_rfl) (by kernel_rfl) (Own.nil w3 w3.heap.size 1 (Nat.le_refl _)) h232 (by first | omega | (simp only [List.length_append, List.length_cons, List.length_nil, List.length_take, List.length_drop, List.length_map]; omega)) (fun v99 w41 h234 c77 c78 => ?_)
  have z42 := c77.size
  refine ops_nil ?_
  refine nx_any trivial ?_
  refine any_takes [15] (fuel' := 4) (listed' := (bm 18 40959)) (l' := [(0, v), (2, v99), (3, .slice none 0 0), (4, .bool false), (5, .int .i64 ((i : Int))), (65, v), (67, .int .i64 (((i : Int)) + 2)), (68, .int .i64 n1)]) panK_FB (by kernel_rfl) (by kernel_rfl) (by kernel_rfl) ?_
  refine any_1 13 (bm 18 49151) (by kernel_rfl) rfl (by kernel_rfl) ?_
  refine ops_add (a := ((i : Int)) + 2) (b := n1) (kd := .i64) (by kernel_rfl) (by kernel_rfl) (by kernel_rfl) (by kernel_rfl) (show (-9223372036854775808 : Int) ≤ (((i : Int)) + 2) + n1 by omega) (show (((i : Int)) + 2) + n1 ≤ (9223372036854775807 : Int) by omega) ?_
  refine ops_nil ?_
  refine nx_any trivial ?_
  have h235 := h231.keep0 c77 (by omega)
  refine any_from (q := 14) (listed' := (bm 18 65535)) (e := 5) (i := (((i : Int)) + 2) + n1) (kd := .i64) (((((i : Int)) + 2) + n1).toNat) panK_FB (by kernel_rfl) rfl (by kernel_rfl) (by kernel_rfl) (by kernel_rfl) (by kernel_rfl) (by kernel_rfl) (by kernel_rfl) (by kernel_rfl) (by kernel_rfl) h235 (by first | omega | (simp only [List.length_append, List.length_cons, List.length_nil, List.length_take, List.length_drop, List.length_map]; omega)) (by first | omega | (simp only [List.length_append, List.length_cons, List.length_nil, List.length_take, List.length_drop, List.length_map]; omega)) (fun v100 h236 => ?_)
  replace h236 := bs_from h236
  refine any_takes [16, 17] (fuel' := 0) (listed' := (bm 18 262143)) (l' := [(0, v), (2, v99), (3, v100), (4, .bool true), (5, .int .i64 ((i : Int)))]) panK_FB (by kernel_rfl) (by kernel_rfl) (by kernel_rfl) ?_
  refine any_done (by kernel_rfl) ?_
  refine nx_seq ?_
  refine at_ret (rs := [.tmp 2, .tmp 3, .tmp 4]) (vs := [v99, v100, .bool true]) rfl (by kernel_rfl) ?_
  have hca : CutAt b i (valN (b.take i)) := ⟨by have := List.length_pos_iff.2 hns.1.1; rw [List.length_take] at this; omega, by omega, by omega, fun j hj => by have := hns.1.2.1 j (by rw [List.length_take]; omega); rwa [bAt_take hj] at this, by omega, fun h => by have := hns.1.2.2 (by rw [bAt_take (by have := List.length_pos_iff.2 hns.1.1; rw [List.length_take] at this; omega)]; exact h); rw [List.length_take] at this; omega, rfl, by omega, by rw [← show i + 1 + n1.toNat = i + 1 + valN (b.take i) by omega]; omega⟩
  have hcr := hca.cut
  rw [List.nil_append, show ((i + 1 + n1.toNat) - ((i) + 1)) = valN (b.take i) by omega] at h234
  rw [show (((((i : Int)) + 2) + n1).toNat) = i + valN (b.take i) + 2 by omega] at h236
  exact ⟨_, rfl, (((((Chg.refl [] w).step0 h1 (by omega)).step0 c1 (by omega)).step0 c2 (by omega)).step0 c77 (by omega)), .inl ⟨_, _, _, _, rfl, hcr, h234.down (by omega), h236⟩⟩
  refine ops_add (a := ((i : Int)) + 2) (b := n1) (kd := .i64) (by kernel_rfl) (by kernel_rfl) (by kernel_rfl) (by kernel_rfl) (show (-9223372036854775808 : Int) ≤ (((i : Int)) + 2) + n1 by omega) (show (((i : Int)) + 2) + n1 ≤ (9223372036854775807 : Int) by omega) ?_
  refine ops_nil ?_
  refine nx_any trivial ?_
  refine any_from (q := 14) (listed' := (bm 18 32511)) (e := 5) (i := (((i : Int)) + 2) + n1) (kd := .i64) (((((i : Int)) + 2) + n1).toNat) panK_FB (by kernel_rfl) rfl (by kernel_rfl) (by kernel_rfl) (by kernel_rfl) (by kernel_rfl) (by kernel_rfl) (by kernel_rfl) (by kernel_rfl) (by kernel_rfl) h231 (by first | omega | (simp only [List.length_append, List.length_cons, List.length_nil, List.length_take, List.length_drop, List.length_map]; omega)) (by first | omega | (simp only [List.length_append, List.length_cons, List.length_nil, List.length_take, List.length_drop, List.length_map]; omega)) (fun v101 h238 => ?_)
  replace h238 := bs_from h238
  refine any_1 8 (bm 18 32767) (by kernel_rfl) rfl (by kernel_rfl) ?_
  refine ops_appendB (e := 5) (by_ := 1) (l1 := []) (l2 := ((b.drop ((i) + 1)).take ((i + 1 + n1.toNat) - ((i) + 1)))) (by kernel_rfl) (by kernel_rfl) (by kernel_rfl) (by kernel_rfl) (by kernel_rfl) (by kernel_rfl) (by kernel_rfl) (Own.nil w3 w3.heap.size 1 (Nat.le_refl _)) h232 (by first | omega | (simp only [List.length_append, List.length_cons, List.length_nil, List.length_take, List.length_drop, List.length_map]; omega)) (fun v102 w42 h240 c79 c80 => ?_)
  have z43 := c79.size
  refine ops_nil ?_
  refine nx_any trivial ?_
  refine any_takes [15, 16, 17] (fuel' := 0) (listed' := (bm 18 262143)) (l' := [(0, v), (2, v102), (3, v101), (4, .bool true), (5, .int .i64 ((i : Int)))]) panK_FB (by kernel_rfl) (by kernel_rfl) (by kernel_rfl) ?_
  refine any_done (by kernel_rfl) ?_
  refine nx_seq ?_
  refine at_ret (rs := [.tmp 2, .tmp 3, .tmp 4]) (vs := [v102, v101, .bool true]) rfl (by kernel_rfl) ?_
  have h241 := h238.keep0 c79 (by omega)
  have hca : CutAt b i (valN (b.take i)) := ⟨by have := List.length_pos_iff.2 hns.1.1; rw [List.length_take] at this; omega, by omega, by omega, fun j hj => by have := hns.1.2.1 j (by rw [List.length_take]; omega); rwa [bAt_take hj] at this, by omega, fun h => by have := hns.1.2.2 (by rw [bAt_take (by have := List.length_pos_iff.2 hns.1.1; rw [List.length_take] at this; omega)]; exact h); rw [List.length_take] at this; omega, rfl, by omega, by rw [← show i + 1 + n1.toNat = i + 1 + valN (b.take i) by omega]; omega⟩
  have hcr := hca.cut
  rw [List.nil_append, show ((i + 1 + n1.toNat) - ((i) + 1)) = valN (b.take i) by omega] at h240
  rw [show (((((i : Int)) + 2) + n1).toNat) = i + valN (b.take i) + 2 by omega] at h241
  exact ⟨_, rfl, (((((Chg.refl [] w).step0 h1 (by omega)).step0 c1 (by omega)).step0 c2 (by omega)).step0 c79 (by omega)), .inl ⟨_, _, _, _, rfl, hcr, h240.down (by omega), h241⟩⟩
  refine ops_add (a := ((i : Int)) + 2) (b := n1) (kd := .i64) (by kernel_rfl) (by kernel_rfl) (by kernel_rfl) (by kernel_rfl) (show (-9223372036854775808 : Int) ≤ (((i : Int)) + 2) + n1 by omega) (show (((i : Int)) + 2) + n1 ≤ (9223372036854775807 : Int) by omega) ?_
  refine ops_nil ?_
  refine nx_any trivial ?_
  have h242 := h14.keep0 c2 (by omega)
  refine any_from (q := 14) (listed' := (bm 18 32379)) (e := 5) (i := (((i : Int)) + 2) + n1) (kd := .i64) (((((i : Int)) + 2) + n1).toNat) panK_FB (by kernel_rfl) rfl (by kernel_rfl) (by kernel_rfl) (by kernel_rfl) (by kernel_rfl) (by kernel_rfl) (by kernel_rfl) (by kernel_rfl) (by kernel_rfl) h242 (by first | omega | (simp only [List.length_append, List.length_cons, List.length_nil, List.length_take, List.length_drop, List.length_map]; omega)) (by first | omega | (simp only [List.length_append, List.length_cons, List.length_nil, List.length_take, List.length_drop, List.length_map]; omega)) (fun v103 h243 => ?_)
  replace h243 := bs_from h243
  refine any_1 2 (bm 18 32383) (by kernel_rfl) rfl (by kernel_rfl) ?_
  refine ops_add (a := (i : Int)) (b := 1) (kd := .i64) (by kernel_rfl) (by kernel_rfl) (by kernel_rfl) (by kernel_rfl) (show (-9223372036854775808 : Int) ≤ ((i : Int)) + 1 by omega) (show ((i : Int)) + 1 ≤ (9223372036854775807 : Int) by omega) ?_
  refine ops_nil ?_
  refine nx_any trivial ?_
  refine any_part (q := 7) (listed' := (bm 18 32511)) (e := 5) (i := ((i : Int)) + 1) (kd := .i64) (i' := (((i : Int)) + 1) + n1) (kd' := .i64) ((i) + 1) (i + 1 + n1.toNat) panK_FB (by kernel_rfl) rfl (by kernel_rfl) (by kernel_rfl) (by kernel_rfl) (by kernel_rfl) (by kernel_rfl) (by kernel_rfl) (by kernel_rfl) (by kernel_rfl) (by kernel_rfl) h242 (by first | omega | (simp only [List.length_append, List.length_cons, List.length_nil, List.length_take, List.length_drop, List.length_map]; omega)) (by first | omega | (simp only [List.length_append, List.length_cons, List.length_nil, List.length_take, List.length_drop, List.length_map]; omega)) (by first | omega | (simp only [List.length_append, List.length_cons, List.length_nil, List.length_take, List.length_drop, List.length_map]; omega)) (by first | omega | (simp only [List.length_append, List.length_cons, List.length_nil, List.length_take, List.length_drop, List.length_map]; omega)) (fun v104 h245 => ?_)
  replace h245 := bs_part h245 (by omega)
  refine any_1 8 (bm 18 32767) (by kernel_rfl) rfl (by kernel_rfl) ?_
  refine ops_appendB (e := 5) (by_ := 1) (l1 := []) (l2 := ((b.drop ((i) + 1)).take ((i + 1 + n1.toNat) - ((i) + 1)))) (by kernel_rfl) (by kernel_rfl) (by kernel_rfl) (by kernel_rfl) (by kernel_rfl) (by kernel_rfl) (by kernel_rfl) (Own.nil w3 w3.heap.size 1 (Nat.le_refl _)) h245 (by first | omega | (simp only [List.length_append, List.length_cons, List.length_nil, List.length_take, List.length_drop, List.length_map]; omega)) (fun v105 w43 h247 c81 c82 => ?_)
  have z44 := c81.size
  refine ops_nil ?_
  refine nx_any trivial ?_
  refine any_takes [15, 16, 17] (fuel' := 0) (listed' := (bm 18 262143)) (l' := [(0, v), (2, v105), (3, v103), (4, .bool true), (5, .int .i64 ((i : Int)))]) panK_FB (by kernel_rfl) (by kernel_rfl) (by kernel_rfl) ?_
  refine any_done (by kernel_rfl) ?_
  refine nx_seq ?_
  refine at_ret (rs := [.tmp 2, .tmp 3, .tmp 4]) (vs := [v105, v103, .bool true]) rfl (by kernel_rfl) ?_
  have h248 := h243.keep0 c81 (by omega)
  have hca : CutAt b i (valN (b.take i)) := ⟨by have := List.length_pos_iff.2 hns.1.1; rw [List.length_take] at this; omega, by omega, by omega, fun j hj => by have := hns.1.2.1 j (by rw [List.length_take]; omega); rwa [bAt_take hj] at this, by omega, fun h => by have := hns.1.2.2 (by rw [bAt_take (by have := List.length_pos_iff.2 hns.1.1; rw [List.length_take] at this; omega)]; exact h); rw [List.length_take] at this; omega, rfl, by omega, by rw [← show i + 1 + n1.toNat = i + 1 + valN (b.take i) by omega]; omega⟩
  have hcr := hca.cut
  rw [List.nil_append, show ((i + 1 + n1.toNat) - ((i) + 1)) = valN (b.take i) by omega] at h247
  rw [show (((((i : Int)) + 2) + n1).toNat) = i + valN (b.take i) + 2 by omega] at h248
  exact ⟨_, rfl, (((((Chg.refl [] w).step0 h1 (by omega)).step0 c1 (by omega)).step0 c2 (by omega)).step0 c81 (by omega)), .inl ⟨_, _, _, _, rfl, hcr, h247.down (by omega), h248⟩⟩
  refine ops_add (a := ((i : Int)) + 2) (b := n1) (kd := .i64) (by kernel_rfl) (by kernel_rfl) (by kernel_rfl) (by kernel_rfl) (show (-9223372036854775808 : Int) ≤ (((i : Int)) + 2) + n1 by omega) (show (((i : Int)) + 2) + n1 ≤ (9223372036854775807 : Int) by omega) ?_
  refine ops_nil ?_
  refine nx_any trivial ?_
  have h249 := h14.keep0 c2 (by omega)
  refine any_from (q := 14) (listed' := (bm 18 32315)) (e := 5) (i := (((i : Int)) + 2) + n1) (kd := .i64) (((((i : Int)) + 2) + n1).toNat) panK_FB (by kernel_rfl) rfl (by kernel_rfl) (by kernel_rfl) (by kernel_rfl) (by kernel_rfl) (by kernel_rfl) (by kernel_rfl) (by kernel_rfl) (by kernel_rfl) h249 (by first | omega | (simp only [List.length_append, List.length_cons, List.length_nil, List.length_take, List.length_drop, List.length_map]; omega)) (by first | omega | (simp only [List.length_append, List.length_cons, List.length_nil, List.length_take, List.length_drop, List.length_map]; omega)) (fun v106 h250 => ?_)
  replace h250 := bs_from h250
  refine any_2 2 (bm 18 32319) 6 (bm 18 32379) (by kernel_rfl) rfl (by kernel_rfl) rfl (by kernel_rfl) ?_ ?_
  refine ops_add (a := (i : Int)) (b := 1) (kd := .i64) (by kernel_rfl) (by kernel_rfl) (by kernel_rfl) (by kernel_rfl) (show (-9223372036854775808 : Int) ≤ ((i : Int)) + 1 by omega) (show ((i : Int)) + 1 ≤ (9223372036854775807 : Int) by omega) ?_
  refine ops_nil ?_
  refine nx_any trivial ?_
  refine any_1 6 (bm 18 32383) (by kernel_rfl) rfl (by kernel_rfl) ?_
  refine ops_add (a := ((i : Int)) + 1) (b := n1) (kd := .i64) (by kernel_rfl) (by kernel_rfl) (by kernel_rfl) (by kernel_rfl) (show (-9223372036854775808 : Int) ≤ (((i : Int)) + 1) + n1 by omega) (show (((i : Int)) + 1) + n1 ≤ (9223372036854775807 : Int) by omega) ?_
  refine ops_nil ?_
  refine nx_any trivial ?_
  refine any_part (q := 7) (listed' := (bm 18 32511)) (e := 5) (i := ((i : Int)) + 1) (kd := .i64) (i' := (((i : Int)) + 1) + n1) (kd' := .i64) ((i) + 1) (i + 1 + n1.toNat) panK_FB (by kernel_rfl) rfl (by kernel_rfl) (by kernel_rfl) (by kernel_rfl) (by kernel_rfl) (by kernel_rfl) (by kernel_rfl) (by kernel_rfl) (by kernel_rfl) (by kernel_rfl) h249 (by first | omega | (simp only [List.length_append, List.length_cons, List.length_nil, List.length_take, List.length_drop, List.length_map]; omega)) (by first | omega | (simp only [List.length_append, List.length_cons, List.length_nil, List.length_take, List.length_drop, List.length_map]; omega)) (by first | omega | (simp only [List.length_append, List.length_cons, List.length_nil, List.length_take, List.length_drop, List.length_map]; omega)) (by first | omega | (simp only [List.length_append, List.length_cons, List.length_nil, List.length_take, List.length_drop, List.length_map]; omega)) (fun v107 h252 => ?_)
  replace h252 := bs_part h252 (by omega)
  refine any_1 8 (bm 18 32767) (by kernel_rfl) rfl (by kernel_rfl) ?_
  refine ops_appendB (e := 5) (by_ := 1) (l1 := []) (l2 := ((b.drop ((i) + 1)).take ((i + 1 + n1.toNat) - ((i) + 1)))) (by kernel_rfl) (by kernel_rfl) (by kernel_rfl) (by kernel_rfl) (by kernel_rfl) (by kernel_rfl) (by kernel_rfl) (Own.nil w3 w3.heap.size 1 (Nat.le_refl _)) h252 (by first | omega | (simp only [List.length_append, List.length_cons, List.length_nil, List.length_take, List.length_drop, List.length_map]; omega)) (fun v108 w44 h254 c83 c84 => ?_)
  have z45 := c83.size
  refine ops_nil ?_
  refine nx_any trivial ?_
  refine any_takes [15, 16, 17] (fuel' := 0) (listed' := (bm 18 262143)) (l' := [(0, v), (2, v108), (3, v106), (4, .bool true), (5, .int .i64 ((i : Int)))]) panK_FB (by kernel_rfl) (by kernel_rfl) (by kernel_rfl) ?_
  refine any_done (by kernel_rfl) ?_
  refine nx_seq ?_
  refine at_ret (rs := [.tmp 2, .tmp 3, .tmp 4]) (vs := [v108, v106, .bool true]) rfl (by kernel_rfl) ?_
  have h255 := h250.keep0 c83 (by omega)
  have hca : CutAt b i (valN (b.take i)) := ⟨by have := List.length_pos_iff.2 hns.1.1; rw [List.length_take] at this; omega, by omega, by omega, fun j hj => by have := hns.1.2.1 j (by rw [List.length_take]; omega); rwa [bAt_take hj] at this, by omega, fun h => by have := hns.1.2.2 (by rw [bAt_take (by have := List.length_pos_iff.2 hns.1.1; rw [List.length_take] at this; omega)]; exact h); rw [List.length_take] at this; omega, rfl, by omega, by rw [← show i + 1 + n1.toNat = i + 1 + valN (b.take i) by omega]; omega⟩
  have hcr := hca.cut
  rw [List.nil_append, show ((i + 1 + n1.toNat) - ((i) + 1)) = valN (b.take i) by omega] at h254
  rw [show (((((i : Int)) + 2) + n1).toNat) = i + valN (b.take i) + 2 by omega] at h255
  exact ⟨_, rfl, (((((Chg.refl [] w).step0 h1 (by omega)).step0 c1 (by omega)).step0 c2 (by omega)).step0 c83 (by omega)), .inl ⟨_, _, _, _, rfl, hcr, h254.down (by omega), h255⟩⟩
  refine ops_add (a := ((i : Int)) + 1) (b := n1) (kd := .i64) (by kernel_rfl) (by kernel_rfl) (by kernel_rfl) (by kernel_rfl) (show (-9223372036854775808 : Int) ≤ (((i : Int)) + 1) + n1 by omega) (show (((i : Int)) + 1) + n1 ≤ (9223372036854775807 : Int) by omega) ?_
  refine ops_nil ?_
  refine nx_any trivial ?_
  refine any_1 2 (bm 18 32383) (by kernel_rfl) rfl (by kernel_rfl) ?_
  refine ops_add (a := (i : Int)) (b := 1) (kd := .i64) (by kernel_rfl) (by kernel_rfl) (by kernel_rfl) (by kernel_rfl) (show (-9223372036854775808 : Int) ≤ ((i : Int)) + 1 by omega) (show ((i : Int)) + 1 ≤ (9223372036854775807 : Int) by omega) ?_
  refine ops_nil ?_
  refine nx_any trivial ?_
  refine any_part (q := 7) (listed' := (bm 18 32511)) (e := 5) (i := ((i : Int)) + 1) (kd := .i64) (i' := (((i : Int)) + 1) + n1) (kd' := .i64) ((i) + 1) (i + 1 + n1.toNat) panK_FB (by kernel_rfl) rfl (by kernel_rfl) (by kernel_rfl) (by kernel_rfl) (by kernel_rfl) (by kernel_rfl) (by kernel_rfl) (by kernel_rfl) (by kernel_rfl) (by kernel_rfl) h249 (by first | omega | (simp only [List.length_append, List.length_cons, List.length_nil, List.length_take, List.length_drop, List.length_map]; omega)) (by first | omega | (simp only [List.length_append, List.length_cons, List.length_nil, List.length_take, List.length_drop, List.length_map]; omega)) (by first | omega | (simp only [List.length_append, List.length_cons, List.length_nil, List.length_take, List.length_drop, List.length_map]; omega)) (by first | omega | (simp only [List.length_append, List.length_cons, List.length_nil, List.length_take, List.length_drop, List.length_map]; omega)) (fun v109 h256 => ?_)
  replace h256 := bs_part h256 (by omega)
  refine any_1 8 (bm 18 32767) (by kernel_rfl) rfl (by kernel_rfl) ?_
  refine ops_appendB (e := 5) (by_ := 1) (l1 := []) (l2 := ((b.drop ((i) + 1)).take ((i + 1 + n1.toNat) - ((i) + 1)))) (by kernel_rfl) (by kernel_rfl) (by kernel_rfl) (by kernel_rfl) (by kernel_rfl) (by kernel_rfl) (by kernel_rfl) (Own.nil w3 w3.heap.size 1 (Nat.le_refl _)) h256 (by first | omega | (simp only [List.length_append, List.length_cons, List.length_nil, List.length_take, List.length_drop, List.length_map]; omega)) (fun v110 w45 h258 c85 c86 => ?_)
  have z46 := c85.size
  refine ops_nil ?_
  refine nx_any trivial ?_
  refine any_takes [15, 16, 17] (fuel' := 0) (listed' := (bm 18 262143)) (l' := [(0, v), (2, v110), (3, v106), (4, .bool true), (5, .int .i64 ((i : Int)))]) panK_FB (by kernel_rfl) (by kernel_rfl) (by kernel_rfl) ?_
  refine any_done (by kernel_rfl) ?_
  refine nx_seq ?_
  refine at_ret (rs := [.tmp 2, .tmp 3, .tmp 4]) (vs := [v110, v106, .bool true]) rfl (by kernel_rfl) ?_
  have h259 := h250.keep0 c85 (by omega)
  have hca : CutAt b i (valN (b.take i)) := ⟨by have := List.length_pos_iff.2 hns.1.1; rw [List.length_take] at this; omega, by omega, by omega, fun j hj => by have := hns.1.2.1 j (by rw [List.length_take]; omega); rwa [bAt_take hj] at this, by omega, fun h => by have := hns.1.2.2 (by rw [bAt_take (by have := List.length_pos_iff.2 hns.1.1; rw [List.length_take] at this; omega)]; exact h); rw [List.length_take] at this; omega, rfl, by omega, by rw [← show i + 1 + n1.toNat = i + 1 + valN (b.take i) by omega]; omega⟩
  have hcr := hca.cut
  rw [List.nil_append, show ((i + 1 + n1.toNat) - ((i) + 1)) = valN (b.take i) by omega] at h258
  rw [show (((((i : Int)) + 2) + n1).toNat) = i + valN (b.take i) + 2 by omega] at h259
  exact ⟨_, rfl, (((((Chg.refl [] w).step0 h1 (by omega)).step0 c1 (by omega)).step0 c2 (by omega)).step0 c85 (by omega)), .inl ⟨_, _, _, _, rfl, hcr, h258.down (by omega), h259⟩⟩
  refine ops_add (a := ((i : Int)) + 2) (b := n1) (kd := .i64) (by kernel_rfl) (by kernel_rfl) (by kernel_rfl) (by kernel_rfl) (show (-9223372036854775808 : Int) ≤ (((i : Int)) + 2) + n1 by omega) (show (((i : Int)) + 2) + n1 ≤ (9223372036854775807 : Int) by omega) ?_
  refine ops_nil ?_
  refine nx_any trivial ?_
  have h260 := h14.keep0 c2 (by omega)
  refine any_from (q := 14) (listed' := (bm 18 32299)) (e := 5) (i := (((i : Int)) + 2) + n1) (kd := .i64) (((((i : Int)) + 2) + n1).toNat) panK_FB (by kernel_rfl) rfl (by kernel_rfl) (by kernel_rfl) (by kernel_rfl) (by kernel_rfl) (by kernel_rfl) (by kernel_rfl) (by kernel_rfl) (by kernel_rfl) h260 (by first | omega | (simp only [List.length_append, List.length_cons, List.length_nil, List.length_take, List.length_drop, List.length_map]; omega)) (by first | omega | (simp only [List.length_append, List.length_cons, List.length_nil, List.length_take, List.length_drop, List.length_map]; omega)) (fun v111 h261 => ?_)
  replace h261 := bs_from h261
  refine any_2 2 (bm 18 32303) 4 (bm 18 32315) (by kernel_rfl) rfl (by kernel_rfl) rfl (by kernel_rfl) ?_ ?_
  refine ops_add (a := (i : Int)) (b := 1) (kd := .i64) (by kernel_rfl) (by kernel_rfl) (by kernel_rfl) (by kernel_rfl) (show (-9223372036854775808 : Int) ≤ ((i : Int)) + 1 by omega) (show ((i : Int)) + 1 ≤ (9223372036854775807 : Int) by omega) ?_
  refine ops_nil ?_
  refine nx_any trivial ?_
  refine any_1 4 (bm 18 32319) (by kernel_rfl) rfl (by kernel_rfl) ?_
  refine ops_add (a := (i : Int)) (b := 1) (kd := .i64) (by kernel_rfl) (by kernel_rfl) (by kernel_rfl) (by kernel_rfl) (show (-9223372036854775808 : Int) ≤ ((i : Int)) + 1 by omega) (show ((i : Int)) + 1 ≤ (9223372036854775807 : Int) by omega) ?_
  refine ops_nil ?_
  refine nx_any trivial ?_
  refine any_1 6 (bm 18 32383) (by kernel_rfl) rfl (by kernel_rfl) ?_
  refine ops_add (a := ((i : Int)) + 1) (b := n1) (kd := .i64) (by kernel_rfl) (by kernel_rfl) (by kernel_rfl) (by kernel_rfl) (show (-9223372036854775808 : Int) ≤ (((i : Int)) + 1) + n1 by omega) (show (((i : Int)) + 1) + n1 ≤ (9223372036854775807 : Int) by omega) ?_
  refine ops_nil ?_
  refine nx_any trivial ?_
  refine any_part (q := 7) (listed' := (bm 18 32511)) (e := 5) (i := ((i : Int)) + 1) (kd := .i64) (i' := (((i : Int)) + 1) + n1) (kd' := .i64) ((i) + 1) (i + 1 + n1.toNat) panK_FB (by kernel_rfl) rfl (by kernel_rfl) (by kernel_rfl) (by kernel_rfl) (by kernel_rfl) (by kernel_rfl) (by kernel_rfl) (by kernel_rfl) (by kernel_rfl) (by kernel_rfl) h260 (by first | omega | (simp only [List.length_append, List.length_cons, List.length_nil, List.length_take, List.length_drop, List.length_map]; omega)) (by first | omega | (simp only [List.length_append, List.length_cons, List.length_nil, List.length_take, List.length_drop, List.length_map]; omega)) (by first | omega | (simp only [List.length_append, List.length_cons, List.length_nil, List.length_take, List.length_drop, List.length_map]; omega)) (by first | omega | (simp only [List.length_append, List.length_cons, List.length_nil, List.length_take, List.length_drop, List.length_map]; omega)) (fun v112 h263 => ?_)
  replace h263 := bs_part h263 (by omega)
  refine any_1 8 (bm 18 32767) (by kernel_rfl) rfl (by kernel_rfl) ?_
  refine ops_appendB (e := 5) (by_ := 1) (l1 := []) (l2 := ((b.drop ((i) + 1)).take ((i + 1 + n1.toNat) - ((i) + 1)))) (by kernel_rfl) (by kernel_rfl) (by kernel_rfl) (by kernel_rfl) (by kernel_rfl) (by kernel_rfl) (by kernel_rfl) (Own.nil w3 w3.heap.size 1 (Nat.le_refl _)) h263 (by first | omega | (simp only [List.length_append, List.length_cons, List.length_nil, List.length_take, List.length_drop, List.length_map]; omega)) (fun v113 w46 h265 c87 c88 => ?_)
  have z47 := c87.size
  refine ops_nil ?_
  refine nx_any trivial ?_
  refine any_takes [15, 16, 17] (fuel' := 0) (listed' := (bm 18 262143)) (l' := [(0, v), (2, v113), (3, v111), (4, .bool true), (5, .int .i64 ((i : Int)))]) panK_FB (by kernel_rfl) (by kernel_rfl) (by kernel_rfl) ?_
  refine any_done (by kernel_rfl) ?_
  refine nx_seq ?_
  refine at_ret (rs := [.tmp 2, .tmp 3, .tmp 4]) (vs := [v113, v111, .bool true]) rfl (by kernel_rfl) ?_
  have h266 := h261.keep0 c87 (by omega)
  have hca : CutAt b i (valN (b.take i)) := ⟨by have := List.length_pos_iff.2 hns.1.1; rw [List.length_take] at this; omega, by omega, by omega, fun j hj => by have := hns.1.2.1 j (by rw [List.length_take]; omega); rwa [bAt_take hj] at this, by omega, fun h => by have := hns.1.2.2 (by rw [bAt_take (by have := List.length_pos_iff.2 hns.1.1; rw [List.length_take] at this; omega)]; exact h); rw [List.length_take] at this; omega, rfl, by omega, by rw [← show i + 1 + n1.toNat = i + 1 + valN (b.take i) by omega]; omega⟩
  have hcr := hca.cut
  rw [List.nil_append, show ((i + 1 + n1.toNat) - ((i) + 1)) = valN (b.take i) by omega] at h265
  rw [show (((((i : Int)) + 2) + n1).toNat) = i + valN (b.take i) + 2 by omega] at h266
  exact ⟨_, rfl, (((((Chg.refl [] w).step0 h1 (by omega)).step0 c1 (by omega)).step0 c2 (by omega)).step0 c87 (by omega)), .inl ⟨_, _, _, _, rfl, hcr, h265.down (by omega), h266⟩⟩
  refine ops_add (a := (i : Int)) (b := 1) (kd := .i64) (by kernel_rfl) (by kernel_rfl) (by kernel_rfl) (by kernel_rfl) (show (-9223372036854775808 : Int) ≤ ((i : Int)) + 1 by omega) (show ((i : Int)) + 1 ≤ (9223372036854775807 : Int) by omega) ?_
  refine ops_nil ?_
  refine nx_any trivial ?_
  refine any_2 2 (bm 18 32319) 6 (bm 18 32379) (by kernel_rfl) rfl (by kernel_rfl) rfl (by kernel_rfl) ?_ ?_
  refine ops_add (a := (i : Int)) (b := 1) (kd := .i64) (by kernel_rfl) (by kernel_rfl) (by kernel_rfl) (by kernel_rfl) (show (-9223372036854775808 : Int) ≤ ((i : Int)) + 1 by omega) (show ((i : Int)) + 1 ≤ (9223372036854775807 : Int) by omega) ?_
  refine ops_nil ?_
  refine nx_any trivial ?_
  refine any_1 6 (bm 18 32383) (by kernel_rfl) rfl (by kernel_rfl) ?_
  refine ops_add (a := ((i : Int)) + 1) (b := n1) (kd := .i64) (by kernel_rfl) (by kernel_rfl) (by kernel_rfl) (by kernel_rfl) (show (-9223372036854775808 : Int) ≤ (((i : Int)) + 1) + n1 by omega) (show (((i : Int)) + 1) + n1 ≤ (9223372036854775807 : Int) by omega) ?_
  refine ops_nil ?_
  refine nx_any trivial ?_
  refine any_part (q := 7) (listed' := (bm 18 32511)) (e := 5) (i := ((i : Int)) + 1) (kd := .i64) (i' := (((i : Int)) + 1) + n1) (kd' := .i64) ((i) + 1) (i + 1 + n1.toNat) panK_FB (by kernel_rfl) rfl (by kernel_rfl) (by kernel_rfl) (by kernel_rfl) (by kernel_rfl) (by kernel_rfl) (by kernel_rfl) (by kernel_rfl) (by kernel_rfl) (by kernel_rfl) h260 (by first | omega | (simp only [List.length_append, List.length_cons, List.length_nil, List.length_take, List.length_drop, List.length_map]; omega)) (by first | omega | (simp only [List.length_append, List.length_cons, List.length_nil, List.length_take, List.length_drop, List.length_map]; omega)) (by first | omega | (simp only [List.length_append, List.length_cons, List.length_nil, List.length_take, List.length_drop, List.length_map]; omega)) (by first | omega | (simp only [List.length_append, List.length_cons, List.length_nil, List.length_take, List.length_drop, List.length_map]; omega)) (fun v114 h267 => ?_)
  replace h267 := bs_part h267 (by omega)
  refine any_1 8 (bm 18 32767) (by kernel_rfl) rfl (by kernel_rfl) ?_
  refine ops_appendB (e := 5) (by_ := 1) (l1 := []) (l2 := ((b.drop ((i) + 1)).take ((i + 1 + n1.toNat) - ((i) + 1)))) (by kernel_rfl) (by kernel_rfl) (by kernel_rfl) (by kernel_rfl) (by kernel_rfl) (by kernel_rfl) (by kernel_rfl) (Own.nil w3 w3.heap.size 1 (Nat.le_refl _)) h267 (by first | omega | (simp only [List.length_append, List.length_cons, List.length_nil, List.length_take, List.length_drop, List.length_map]; omega)) (fun v115 w47 h269 c89 c90 => ?_)
  have z48 := c89.size
  refine ops_nil ?_
  refine nx_any trivial ?_
  refine any_takes [15, 16, 17] (fuel' := 0) (listed' := (bm 18 262143)) (l' := [(0, v), (2, v115), (3, v111), (4, .bool true), (5, .int .i64 ((i : Int)))]) panK_FB (by kernel_rfl) (by kernel_rfl) (by kernel_rfl) ?_
  refine any_done (by kernel_rfl) ?_
  refine nx_seq ?_
  refine at_ret (rs := [.tmp 2, .tmp 3, .tmp 4]) (vs := [v115, v111, .bool true]) rfl (by kernel_rfl) ?_
  have h270 := h261.keep0 c89 (by omega)
  have hca : CutAt b i (valN (b.take i)) := ⟨by have := List.length_pos_iff.2 hns.1.1; rw [List.length_take] at this; omega, by omega, by omega, fun j hj => by have := hns.1.2.1 j (by rw [List.length_take]; omega); rwa [bAt_take hj] at this, by omega, fun h => by have := hns.1.2.2 (by rw [bAt_take (by have := List.length_pos_iff.2 hns.1.1; rw [List.length_take] at this; omega)]; exact h); rw [List.length_take] at this; omega, rfl, by omega, by rw [← show i + 1 + n1.toNat = i + 1 + valN (b.take i) by omega]; omega⟩
  have hcr := hca.cut
  rw [List.nil_append, show ((i + 1 + n1.toNat) - ((i) + 1)) = valN (b.take i) by omega] at h269
  rw [show (((((i : Int)) + 2) + n1).toNat) = i + valN (b.take i) + 2 by omega] at h270
  exact ⟨_, rfl, (((((Chg.refl [] w).step0 h1 (by omega)).step0 c1 (by omega)).step0 c2 (by omega)).step0 c89 (by omega)), .inl ⟨_, _, _, _, rfl, hcr, h269.down (by omega), h270⟩⟩
  refine ops_add (a := ((i : Int)) + 1) (b := n1) (kd := .i64) (by kernel_rfl) (by kernel_rfl) (by kernel_rfl) (by kernel_rfl) (show (-9223372036854775808 : Int) ≤ (((i : Int)) + 1) + n1 by omega) (show (((i : Int)) + 1) + n1 ≤ (9223372036854775807 : Int) by omega) ?_
  refine ops_nil ?_
  refine nx_any trivial ?_
  refine any_1 2 (bm 18 32383) (by kernel_rfl) rfl (by kernel_rfl) ?_
  refine ops_add (a := (i : Int)) (b := 1) (kd := .i64) (by kernel_rfl) (by kernel_rfl) (by kernel_rfl) (by kernel_rfl) (show (-9223372036854775808 : Int) ≤ ((i : Int)) + 1 by omega) (show ((i : Int)) + 1 ≤ (9223372036854775807 : Int) by omega) ?_
  refine ops_nil ?_
  refine nx_any trivial ?_
  refine any_part (q := 7) (listed' := (bm 18 32511)) (e := 5) (i := ((i : Int)) + 1) (kd := .i64) (i' := (((i : Int)) + 1) + n1) (kd' := .i64) ((i) + 1) (i + 1 + n1.toNat) panK_FB (by kernel_rfl) rfl (by kernel_rfl) (by kernel_rfl) (by kernel_rfl) (by kernel_rfl) (by kernel_rfl) (by kernel_rfl) (by kernel_rfl) (by kernel_rfl) (by kernel_rfl) h260 (by first | omega | (simp only [List.length_append, List.length_cons, List.length_nil, List.length_take, List.length_drop, List.length_map]; omega)) (by first | omega | (simp only [List.length_append, List.length_cons, List.length_nil, List.length_take, List.length_drop, List.length_map]; omega)) (by first | omega | (simp only [List.length_append, List.length_cons, List.length_nil, List.length_take, List.length_drop, List.length_map]; omega)) (by first | omega | (simp only [List.length_append, List.length_cons, List.length_nil, List.length_take, List.length_drop, List.length_map]; omega)) (fun v116 h271 => ?_)
  replace h271 := bs_part h271 (by omega)
  refine any_1 8 (bm 18 32767) (by kernel_rfl) rfl (by kernel_rfl) ?_
  refine ops_appendB (e := 5) (by_ := 1) (l1 := []) (l2 := ((b.drop ((i) + 1)).take ((i + 1 + n1.toNat) - ((i) + 1)))) (by kernel_rfl) (by kernel_rfl) (by kernel_rfl) (by kernel_rfl) (by kernel_rfl) (by kernel_rfl) (by kernel_rfl) (Own.nil w3 w3.heap.size 1 (Nat.le_refl _)) h271 (by first | omega | (simp only [List.length_append, List.length_cons, List.length_nil, List.length_take, List.length_drop, List.length_map]; omega)) (fun v117 w48 h273 c91 c92 => ?_)
  have z49 := c91.size
  refine ops_nil ?_
  refine nx_any trivial ?_
  refine any_takes [15, 16, 17] (fuel' := 0) (listed' := (bm 18 262143)) (l' := [(0, v), (2, v117), (3, v111), (4, .bool true), (5, .int .i64 ((i : Int)))]) panK_FB (by kernel_rfl) (by kernel_rfl) (by kernel_rfl) ?_
  refine any_done (by kernel_rfl) ?_
  refine nx_seq ?_
  refine at_ret (rs := [.tmp 2, .tmp 3, .tmp 4]) (vs := [v117, v111, .bool true]) rfl (by kernel_rfl) ?_
  have h274 := h261.keep0 c91 (by omega)
  have hca : CutAt b i (valN (b.take i)) := ⟨by have := List.length_pos_iff.2 hns.1.1; rw [List.length_take] at this; omega, by omega, by omega, fun j hj => by have := hns.1.2.1 j (by rw [List.length_take]; omega); rwa [bAt_take hj] at this, by omega, fun h => by have := hns.1.2.2 (by rw [bAt_take (by have := List.length_pos_iff.2 hns.1.1; rw [List.length_take] at this; omega)]; exact h); rw [List.length_take] at this; omega, rfl, by omega, by rw [← show i + 1 + n1.toNat = i + 1 + valN (b.take i) by omega]; omega⟩
  have hcr := hca.cut
  rw [List.nil_append, show ((i + 1 + n1.toNat) - ((i) + 1)) = valN (b.take i) by omega] at h273
  rw [show (((((i : Int)) + 2) + n1).toNat) = i + valN (b.take i) + 2 by omega] at h274
  exact ⟨_, rfl, (((((Chg.refl [] w).step0 h1 (by omega)).step0 c1 (by omega)).step0 c2 (by omega)).step0 c91 (by omega)), .inl ⟨_, _, _, _, rfl, hcr, h273.down (by omega), h274⟩⟩
  refine at_exit (ex_seq (ex_inv (ex_here (nx_seq (at_seq (at_region ?_))))))
  refine ops_run4 (l' := [(2, .slice none 0 0), (3, v), (4, .bool false)]) (by kernel_rfl) ?_
  refine ops_nil (nx_seq ?_)
  refine at_ret (rs := [.tmp 2, .tmp 3, .tmp 4]) (vs := [.slice none 0 0, v, .bool false]) rfl (by kernel_rfl) ?_
  refine ⟨_, rfl, ((Chg.refl [] w).step0 h1 (by omega)), .inr ⟨fun x r h => ?_, rfl⟩⟩
  obtain ⟨i0, a, _, _⟩ := cutAt_of h
  have g1 := a.h1; have g8 := a.h8; have g2 := a.h0; have g3 := a.hl; have g4 := a.hm; have g5 := a.hk; have g6 := a.hn; have g7 := a.hc
  exact hf i0 (by omega) g7
  rw [show (decide (((i : Int) : Int) < ((b.length : Int) : Int))) = false from decide_eq_false q1]
  refine ops_run3 (l' := [(0, v), (2, .slice none 0 0), (3, .slice none 0 0), (4, .bool false), (5, .int .i64 ((i : Int))), (15, .bool false)]) (by kernel_rfl) ?_
  refine ops_nil (nx_seq ?_)
  refine at_iff (by kernel_rfl) ?_
  refine at_exit (ex_seq (ex_inv (ex_here (nx_seq (at_seq (at_region ?_))))))
  refine ops_run4 (l' := [(2, .slice none 0 0), (3, v), (4, .bool false)]) (by kernel_rfl) ?_
  refine ops_nil (nx_seq ?_)
  refine at_ret (rs := [.tmp 2, .tmp 3, .tmp 4]) (vs := [.slice none 0 0, v, .bool false]) rfl (by kernel_rfl) ?_
  refine ⟨_, rfl, ((Chg.refl [] w).step0 h1 (by omega)), .inr ⟨fun x r h => ?_, rfl⟩⟩
  obtain ⟨i0, a, _, _⟩ := cutAt_of h
  have g1 := a.h1; have g8 := a.h8; have g2 := a.h0; have g3 := a.hl; have g4 := a.hm; have g5 := a.hk; have g6 := a.hn; have g7 := a.hc
  exact hf i0 (by omega) g7

end Go.Proofs.YtnjkdnbabogcjaaDoor
