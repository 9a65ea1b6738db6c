/- A walk, printed by a program of my own (wip/gen/walk.py) from a script of mine. -/
import Derived.Test.YtnjkdnbabogcjaaDoorProg
import Derived.Test.YtnjkdnbabogcjaaDoorL0
import Derived.Test.YtnjkdnbabogcjaaDoorQ1
set_option maxHeartbeats 4000000
set_option linter.unusedVariables false
set_option linter.unusedSimpArgs false
set_option maxRecDepth 100000
namespace Go.Proofs.YtnjkdnbabogcjaaDoor
open Go Go.RowKit Go.Kw

theorem kind_ok (u : UInt8) (w : World) : Pu Tryd.prog 117 #[.int .u8 u.toNat] w (.int .i64 (kindI u.toNat)) := by
  have hr := u.toNat_lt
  refine enter (n := 28) (args := [.int .u8 ((u.toNat : Int))]) Tryd.func117 rfl rfl (Nat.le_of_ble_eq_true (by kernel_rfl)) ?_
  refine at_seq (at_region ?_)
  refine ops_run1 (l' := [(0, .int .u8 ((u.toNat : Int))), (2, .int .i64 0)]) (by kernel_rfl) ?_
  refine ops_nil (nx_seq (at_seq (at_block (at_seq (at_block (at_seq (at_block (at_block (at_block (at_seq (at_seq (at_seq (at_region ?_)))))))))))))
  refine ops_run3 (l' := [(0, .int .u8 ((u.toNat : Int))), (2, .int .i64 0), (6, .bool (decide (((u.toNat : Int) : Int) ≥ (97 : Int))))]) (by kernel_rfl) ?_
  by_cases q1 : ((u.toNat : Int) : Int) ≥ (97 : Int)
  rw [show (decide (((u.toNat : Int) : Int) ≥ (97 : Int))) = true from decide_eq_true q1]
  refine ops_run4 (l' := [(0, .int .u8 ((u.toNat : Int))), (2, .int .i64 0), (3, .bool (decide (((u.toNat : Int) : Int) ≤ (122 : Int))))]) (by kernel_rfl) ?_
  refine ops_nil (nx_seq ?_)
  refine at_ifp (((u.toNat : Int) : Int) ≤ (122 : Int)) (by kernel_rfl) (fun q2 => ?_) (fun q2 => ?_)
  refine at_exit (ex_seq (ex_seq (ex_here (nx_blk (nx_blk (nx_seq (at_seq (at_seq (at_region ?_)))))))))
  refine ops_run1 (l' := [(2, .int .i64 2)]) (by kernel_rfl) ?_
  refine ops_nil (nx_seq ?_)
  refine at_ret (rs := [.tmp 2]) (vs := [.int .i64 2]) rfl (by kernel_rfl) ?_
  exact ⟨_, rfl, (congrArg (Value.int .i64) (show (2 : Int) = kindI u.toNat from ((kindI_2 _).2 (by unfold letterP; omega)).symm)), (Chg.refl [] w)⟩
  refine at_skip (nx_seq (at_seq (at_seq (at_region ?_))))
  refine ops_run3 (l' := [(0, .int .u8 ((u.toNat : Int))), (2, .int .i64 0), (13, .bool (decide (((u.toNat : Int) : Int) ≥ (65 : Int))))]) (by kernel_rfl) ?_
  by_cases q3 : ((u.toNat : Int) : Int) ≥ (65 : Int)
  rw [show (decide (((u.toNat : Int) : Int) ≥ (65 : Int))) = true from decide_eq_true q3]
  refine ops_run4 (l' := [(0, .int .u8 ((u.toNat : Int))), (2, .int .i64 0), (10, .bool (decide (((u.toNat : Int) : Int) ≤ (90 : Int))))]) (by kernel_rfl) ?_
  refine ops_nil (nx_seq ?_)
  refine at_ifp (((u.toNat : Int) : Int) ≤ (90 : Int)) (by kernel_rfl) (fun q4 => ?_) (fun q4 => ?_)
  refine at_exit (ex_seq (ex_seq (ex_past rfl (ex_here (nx_blk (nx_seq (at_seq (at_seq (at_region ?_)))))))))
  refine ops_run1 (l' := [(2, .int .i64 2)]) (by kernel_rfl) ?_
  refine ops_nil (nx_seq ?_)
  refine at_ret (rs := [.tmp 2]) (vs := [.int .i64 2]) rfl (by kernel_rfl) ?_
  exact ⟨_, rfl, (congrArg (Value.int .i64) (show (2 : Int) = kindI u.toNat from ((kindI_2 _).2 (by unfold letterP; omega)).symm)), (Chg.refl [] w)⟩
  refine at_skip (nx_seq (at_seq (at_seq (at_region ?_))))
  refine ops_run3 (l' := [(0, .int .u8 ((u.toNat : Int))), (2, .int .i64 0), (20, .bool (decide (((u.toNat : Int) : Int) ≥ (48 : Int))))]) (by kernel_rfl) ?_
  by_cases q5 : ((u.toNat : Int) : Int) ≥ (48 : Int)
  rw [show (decide (((u.toNat : Int) : Int) ≥ (48 : Int))) = true from decide_eq_true q5]
  refine ops_run4 (l' := [(0, .int .u8 ((u.toNat : Int))), (2, .int .i64 0), (17, .bool (decide (((u.toNat : Int) : Int) ≤ (57 : Int))))]) (by kernel_rfl) ?_
  refine ops_nil (nx_seq ?_)
  refine at_ifp (((u.toNat : Int) : Int) ≤ (57 : Int)) (by kernel_rfl) (fun q6 => ?_) (fun q6 => ?_)
  refine at_exit (ex_seq (ex_seq (ex_past rfl (ex_past rfl (ex_here (nx_seq (at_seq (at_seq (at_region ?_)))))))))
  refine ops_run1 (l' := [(2, .int .i64 2)]) (by kernel_rfl) ?_
  refine ops_nil (nx_seq ?_)
  refine at_ret (rs := [.tmp 2]) (vs := [.int .i64 2]) rfl (by kernel_rfl) ?_
  exact ⟨_, rfl, (congrArg (Value.int .i64) (show (2 : Int) = kindI u.toNat from ((kindI_2 _).2 (by unfold letterP; omega)).symm)), (Chg.refl [] w)⟩
  refine at_skip (nx_seq (at_seq (at_region ?_)))
  refine ops_run1 (l' := [(2, .int .i64 0), (25, .int .u8 ((u.toNat : Int)))]) (by kernel_rfl) ?_
  refine ops_callr (by kernel_rfl) (by kernel_rfl) (by kernel_rfl) (strings_IndexByte_ok [33, 35, 36, 37, 38, 39, 42, 43, 45, 47, 61, 63, 94, 95, 123, 124, 125, 126, 96] u w) ?_
  rintro _ w1 ⟨rfl, c1⟩
  have z1 := c1.size
  refine ops_run2 (l' := [(2, .int .i64 0), (24, .bool (decide ((Lib.indexByte [33, 35, 36, 37, 38, 39, 42, 43, 45, 47, 61, 63, 94, 95, 123, 124, 125, 126, 96] u : Int) ≥ (0 : Int))))]) (by kernel_rfl) ?_
  refine ops_nil (nx_seq ?_)
  refine at_ifp ((Lib.indexByte [33, 35, 36, 37, 38, 39, 42, 43, 45, 47, 61, 63, 94, 95, 123, 124, 125, 126, 96] u : Int) ≥ (0 : Int)) (by kernel_rfl) (fun q7 => ?_) (fun q7 => ?_)
  refine at_exit (ex_seq (ex_past rfl (ex_past rfl (ex_past rfl (ex_seq (ex_here (nx_seq (at_seq (at_seq (at_region ?_))))))))))
  refine ops_run1 (l' := [(2, .int .i64 1)]) (by kernel_rfl) ?_
  refine ops_nil (nx_seq ?_)
  refine at_ret (rs := [.tmp 2]) (vs := [.int .i64 1]) rfl (by kernel_rfl) ?_
  exact ⟨_, rfl, (congrArg (Value.int .i64) (show (1 : Int) = kindI u.toNat from (by unfold kindI; rw [if_neg (by unfold letterP; omega), if_pos ((marks_ok u).1 (by omega))]))), ((Chg.refl [] w).step0 c1 (by omega))⟩
  refine at_skip (nx_seq (at_exit (ex_past rfl (ex_past rfl (ex_past rfl (ex_seq (ex_past rfl (ex_seq (ex_here (nx_seq (at_seq (at_region ?_))))))))))))
  refine ops_run1 (l' := [(2, .int .i64 0)]) (by kernel_rfl) ?_
  refine ops_nil (nx_seq ?_)
  refine at_ret (rs := [.tmp 2]) (vs := [.int .i64 0]) rfl (by kernel_rfl) ?_
  exact ⟨_, rfl, (congrArg (Value.int .i64) (show (0 : Int) = kindI u.toNat from ((kindI_0 _).2 (fun h => by have h2 := mt (marks_ok u).2 (by omega); unfold letterP at h; rcases h with h | h <;> first | omega | exact h2 h)).symm)), ((Chg.refl [] w).step0 c1 (by omega))⟩
  rw [show (decide (((u.toNat : Int) : Int) ≥ (48 : Int))) = false from decide_eq_false q5]
  refine ops_run4 (l' := [(0, .int .u8 ((u.toNat : Int))), (2, .int .i64 0), (17, .bool false)]) (by kernel_rfl) ?_
  refine ops_nil (nx_seq ?_)
  refine at_iff (by kernel_rfl) ?_
  refine at_skip (nx_seq (at_seq (at_region ?_)))
  refine ops_run1 (l' := [(2, .int .i64 0), (25, .int .u8 ((u.toNat : Int)))]) (by kernel_rfl) ?_
  refine ops_callr (by kernel_rfl) (by kernel_rfl) (by kernel_rfl) (strings_IndexByte_ok [33, 35, 36, 37, 38, 39, 42, 43, 45, 47, 61, 63, 94, 95, 123, 124, 125, 126, 96] u w) ?_
  rintro _ w2 ⟨rfl, c2⟩
  have z2 := c2.size
  refine ops_run2 (l' := [(2, .int .i64 0), (24, .bool (decide ((Lib.indexByte [33, 35, 36, 37, 38, 39, 42, 43, 45, 47, 61, 63, 94, 95, 123, 124, 125, 126, 96] u : Int) ≥ (0 : Int))))]) (by kernel_rfl) ?_
  refine ops_nil (nx_seq ?_)
  refine at_ifp ((Lib.indexByte [33, 35, 36, 37, 38, 39, 42, 43, 45, 47, 61, 63, 94, 95, 123, 124, 125, 126, 96] u : Int) ≥ (0 : Int)) (by kernel_rfl) (fun q8 => ?_) (fun q8 => ?_)
  refine at_exit (ex_seq (ex_past rfl (ex_past rfl (ex_past rfl (ex_seq (ex_here (nx_seq (at_seq (at_seq (at_region ?_))))))))))
  refine ops_run1 (l' := [(2, .int .i64 1)]) (by kernel_rfl) ?_
  refine ops_nil (nx_seq ?_)
  refine at_ret (rs := [.tmp 2]) (vs := [.int .i64 1]) rfl (by kernel_rfl) ?_
  exact ⟨_, rfl, (congrArg (Value.int .i64) (show (1 : Int) = kindI u.toNat from (by unfold kindI; rw [if_neg (by unfold letterP; omega), if_pos ((marks_ok u).1 (by omega))]))), ((Chg.refl [] w).step0 c2 (by omega))⟩
  refine at_skip (nx_seq (at_exit (ex_past rfl (ex_past rfl (ex_past rfl (ex_seq (ex_past rfl (ex_seq (ex_here (nx_seq (at_seq (at_region ?_))))))))))))
  refine ops_run1 (l' := [(2, .int .i64 0)]) (by kernel_rfl) ?_
  refine ops_nil (nx_seq ?_)
  refine at_ret (rs := [.tmp 2]) (vs := [.int .i64 0]) rfl (by kernel_rfl) ?_
  exact ⟨_, rfl, (congrArg (Value.int .i64) (show (0 : Int) = kindI u.toNat from ((kindI_0 _).2 (fun h => by have h2 := mt (marks_ok u).2 (by omega); unfold letterP at h; rcases h with h | h <;> first | omega | exact h2 h)).symm)), ((Chg.refl [] w).step0 c2 (by omega))⟩
  rw [show (decide (((u.toNat : Int) : Int) ≥ (65 : Int))) = false from decide_eq_false q3]
  refine ops_run4 (l' := [(0, .int .u8 ((u.toNat : Int))), (2, .int .i64 0), (10, .bool false)]) (by kernel_rfl) ?_
  refine ops_nil (nx_seq ?_)
  refine at_iff (by kernel_rfl) ?_
  refine at_skip (nx_seq (at_seq (at_seq (at_region ?_))))
  refine ops_run3 (l' := [(0, .int .u8 ((u.toNat : Int))), (2, .int .i64 0), (20, .bool (decide (((u.toNat : Int) : Int) ≥ (48 : Int))))]) (by kernel_rfl) ?_
  by_cases q9 : ((u.toNat : Int) : Int) ≥ (48 : Int)
  rw [show (decide (((u.toNat : Int) : Int) ≥ (48 : Int))) = true from decide_eq_true q9]
  refine ops_run4 (l' := [(0, .int .u8 ((u.toNat : Int))), (2, .int .i64 0), (17, .bool (decide (((u.toNat : Int) : Int) ≤ (57 : Int))))]) (by kernel_rfl) ?_
  refine ops_nil (nx_seq ?_)
  refine at_ifp (((u.toNat : Int) : Int) ≤ (57 : Int)) (by kernel_rfl) (fun q10 => ?_) (fun q10 => ?_)
  refine at_exit (ex_seq (ex_seq (ex_past rfl (ex_past rfl (ex_here (nx_seq (at_seq (at_seq (at_region ?_)))))))))
  refine ops_run1 (l' := [(2, .int .i64 2)]) (by kernel_rfl) ?_
  refine ops_nil (nx_seq ?_)
  refine at_ret (rs := [.tmp 2]) (vs := [.int .i64 2]) rfl (by kernel_rfl) ?_
  exact ⟨_, rfl, (congrArg (Value.int .i64) (show (2 : Int) = kindI u.toNat from ((kindI_2 _).2 (by unfold letterP; omega)).symm)), (Chg.refl [] w)⟩
  refine at_skip (nx_seq (at_seq (at_region ?_)))
  refine ops_run1 (l' := [(2, .int .i64 0), (25, .int .u8 ((u.toNat : Int)))]) (by kernel_rfl) ?_
  refine ops_callr (by kernel_rfl) (by kernel_rfl) (by kernel_rfl) (strings_IndexByte_ok [33, 35, 36, 37, 38, 39, 42, 43, 45, 47, 61, 63, 94, 95, 123, 124, 125, 126, 96] u w) ?_
  rintro _ w3 ⟨rfl, c3⟩
  have z3 := c3.size
  refine ops_run2 (l' := [(2, .int .i64 0), (24, .bool (decide ((Lib.indexByte [33, 35, 36, 37, 38, 39, 42, 43, 45, 47, 61, 63, 94, 95, 123, 124, 125, 126, 96] u : Int) ≥ (0 : Int))))]) (by kernel_rfl) ?_
  refine ops_nil (nx_seq ?_)
  refine at_ifp ((Lib.indexByte [33, 35, 36, 37, 38, 39, 42, 43, 45, 47, 61, 63, 94, 95, 123, 124, 125, 126, 96] u : Int) ≥ (0 : Int)) (by kernel_rfl) (fun q11 => ?_) (fun q11 => ?_)
  refine at_exit (ex_seq (ex_past rfl (ex_past rfl (ex_past rfl (ex_seq (ex_here (nx_seq (at_seq (at_seq (at_region ?_))))))))))
  refine ops_run1 (l' := [(2, .int .i64 1)]) (by kernel_rfl) ?_
  refine ops_nil (nx_seq ?_)
  refine at_ret (rs := [.tmp 2]) (vs := [.int .i64 1]) rfl (by kernel_rfl) ?_
  exact ⟨_, rfl, (congrArg (Value.int .i64) (show (1 : Int) = kindI u.toNat from (by unfold kindI; rw [if_neg (by unfold letterP; omega), if_pos ((marks_ok u).1 (by omega))]))), ((Chg.refl [] w).step0 c3 (by omega))⟩
  refine at_skip (nx_seq (at_exit (ex_past rfl (ex_past rfl (ex_past rfl (ex_seq (ex_past rfl (ex_seq (ex_here (nx_seq (at_seq (at_region ?_))))))))))))
  refine ops_run1 (l' := [(2, .int .i64 0)]) (by kernel_rfl) ?_
  refine ops_nil (nx_seq ?_)
  refine at_ret (rs := [.tmp 2]) (vs := [.int .i64 0]) rfl (by kernel_rfl) ?_
  exact ⟨_, rfl, (congrArg (Value.int .i64) (show (0 : Int) = kindI u.toNat from ((kindI_0 _).2 (fun h => by have h2 := mt (marks_ok u).2 (by omega); unfold letterP at h; rcases h with h | h <;> first | omega | exact h2 h)).symm)), ((Chg.refl [] w).step0 c3 (by omega))⟩
  rw [show (decide (((u.toNat : Int) : Int) ≥ (48 : Int))) = false from decide_eq_false q9]
  refine ops_run4 (l' := [(0, .int .u8 ((u.toNat : Int))), (2, .int .i64 0), (17, .bool false)]) (by kernel_rfl) ?_
  refine ops_nil (nx_seq ?_)
  refine at_iff (by kernel_rfl) ?_
  refine at_skip (nx_seq (at_seq (at_region ?_)))
  refine ops_run1 (l' := [(2, .int .i64 0), (25, .int .u8 ((u.toNat : Int)))]) (by kernel_rfl) ?_
  refine ops_callr (by kernel_rfl) (by kernel_rfl) (by kernel_rfl) (strings_IndexByte_ok [33, 35, 36, 37, 38, 39, 42, 43, 45, 47, 61, 63, 94, 95, 123, 124, 125, 126, 96] u w) ?_
  rintro _ w4 ⟨rfl, c4⟩
  have z4 := c4.size
  refine ops_run2 (l' := [(2, .int .i64 0), (24, .bool (decide ((Lib.indexByte [33, 35, 36, 37, 38, 39, 42, 43, 45, 47, 61, 63, 94, 95, 123, 124, 125, 126, 96] u : Int) ≥ (0 : Int))))]) (by kernel_rfl) ?_
  refine ops_nil (nx_seq ?_)
  refine at_ifp ((Lib.indexByte [33, 35, 36, 37, 38, 39, 42, 43, 45, 47, 61, 63, 94, 95, 123, 124, 125, 126, 96] u : Int) ≥ (0 : Int)) (by kernel_rfl) (fun q12 => ?_) (fun q12 => ?_)
  refine at_exit (ex_seq (ex_past rfl (ex_past rfl (ex_past rfl (ex_seq (ex_here (nx_seq (at_seq (at_seq (at_region ?_))))))))))
  refine ops_run1 (l' := [(2, .int .i64 1)]) (by kernel_rfl) ?_
  refine ops_nil (nx_seq ?_)
  refine at_ret (rs := [.tmp 2]) (vs := [.int .i64 1]) rfl (by kernel_rfl) ?_
  exact ⟨_, rfl, (congrArg (Value.int .i64) (show (1 : Int) = kindI u.toNat from (by unfold kindI; rw [if_neg (by unfold letterP; omega), if_pos ((marks_ok u).1 (by omega))]))), ((Chg.refl [] w).step0 c4 (by omega))⟩
  refine at_skip (nx_seq (at_exit (ex_past rfl (ex_past rfl (ex_past rfl (ex_seq (ex_past rfl (ex_seq (ex_here (nx_seq (at_seq (at_region ?_))))))))))))
  refine ops_run1 (l' := [(2, .int .i64 0)]) (by kernel_rfl) ?_
  refine ops_nil (nx_seq ?_)
  refine at_ret (rs := [.tmp 2]) (vs := [.int .i64 0]) rfl (by kernel_rfl) ?_
  exact ⟨_, rfl, (congrArg (Value.int .i64) (show (0 : Int) = kindI u.toNat from ((kindI_0 _).2 (fun h => by have h2 := mt (marks_ok u).2 (by omega); unfold letterP at h; rcases h with h | h <;> first | omega | exact h2 h)).symm)), ((Chg.refl [] w).step0 c4 (by omega))⟩
  rw [show (decide (((u.toNat : Int) : Int) ≥ (97 : Int))) = false from decide_eq_false q1]
  refine ops_run4 (l' := [(0, .int .u8 ((u.toNat : Int))), (2, .int .i64 0), (3, .bool false)]) (by kernel_rfl) ?_
  refine ops_nil (nx_seq ?_)
  refine at_iff (by kernel_rfl) ?_
  refine at_skip (nx_seq (at_seq (at_seq (at_region ?_))))
  refine ops_run3 (l' := [(0, .int .u8 ((u.toNat : Int))), (2, .int .i64 0), (13, .bool (decide (((u.toNat : Int) : Int) ≥ (65 : Int))))]) (by kernel_rfl) ?_
  by_cases q13 : ((u.toNat : Int) : Int) ≥ (65 : Int)
  rw [show (decide (((u.toNat : Int) : Int) ≥ (65 : Int))) = true from decide_eq_true q13]
  refine ops_run4 (l' := [(0, .int .u8 ((u.toNat : Int))), (2, .int .i64 0), (10, .bool (decide (((u.toNat : Int) : Int) ≤ (90 : Int))))]) (by kernel_rfl) ?_
  refine ops_nil (nx_seq ?_)
  refine at_ifp (((u.toNat : Int) : Int) ≤ (90 : Int)) (by kernel_rfl) (fun q14 => ?_) (fun q14 => ?_)
  refine at_exit (ex_seq (ex_seq (ex_past rfl (ex_here (nx_blk (nx_seq (at_seq (at_seq (at_region ?_)))))))))
  refine ops_run1 (l' := [(2, .int .i64 2)]) (by kernel_rfl) ?_
  refine ops_nil (nx_seq ?_)
  refine at_ret (rs := [.tmp 2]) (vs := [.int .i64 2]) rfl (by kernel_rfl) ?_
  exact ⟨_, rfl, (congrArg (Value.int .i64) (show (2 : Int) = kindI u.toNat from ((kindI_2 _).2 (by unfold letterP; omega)).symm)), (Chg.refl [] w)⟩
  refine at_skip (nx_seq (at_seq (at_seq (at_region ?_))))
  refine ops_run3 (l' := [(0, .int .u8 ((u.toNat : Int))), (2, .int .i64 0), (20, .bool (decide (((u.toNat : Int) : Int) ≥ (48 : Int))))]) (by kernel_rfl) ?_
  by_cases q15 : ((u.toNat : Int) : Int) ≥ (48 : Int)
  rw [show (decide (((u.toNat : Int) : Int) ≥ (48 : Int))) = true from decide_eq_true q15]
  refine ops_run4 (l' := [(0, .int .u8 ((u.toNat : Int))), (2, .int .i64 0), (17, .bool (decide (((u.toNat : Int) : Int) ≤ (57 : Int))))]) (by kernel_rfl) ?_
  refine ops_nil (nx_seq ?_)
  refine at_ifp (((u.toNat : Int) : Int) ≤ (57 : Int)) (by kernel_rfl) (fun q16 => ?_) (fun q16 => ?_)
  refine at_exit (ex_seq (ex_seq (ex_past rfl (ex_past rfl (ex_here (nx_seq (at_seq (at_seq (at_region ?_)))))))))
  refine ops_run1 (l' := [(2, .int .i64 2)]) (by kernel_rfl) ?_
  refine ops_nil (nx_seq ?_)
  refine at_ret (rs := [.tmp 2]) (vs := [.int .i64 2]) rfl (by kernel_rfl) ?_
  exact ⟨_, rfl, (congrArg (Value.int .i64) (show (2 : Int) = kindI u.toNat from ((kindI_2 _).2 (by unfold letterP; omega)).symm)), (Chg.refl [] w)⟩
  refine at_skip (nx_seq (at_seq (at_region ?_)))
  refine ops_run1 (l' := [(2, .int .i64 0), (25, .int .u8 ((u.toNat : Int)))]) (by kernel_rfl) ?_
  refine ops_callr (by kernel_rfl) (by kernel_rfl) (by kernel_rfl) (strings_IndexByte_ok [33, 35, 36, 37, 38, 39, 42, 43, 45, 47, 61, 63, 94, 95, 123, 124, 125, 126, 96] u w) ?_
  rintro _ w5 ⟨rfl, c5⟩
  have z5 := c5.size
  refine ops_run2 (l' := [(2, .int .i64 0), (24, .bool (decide ((Lib.indexByte [33, 35, 36, 37, 38, 39, 42, 43, 45, 47, 61, 63, 94, 95, 123, 124, 125, 126, 96] u : Int) ≥ (0 : Int))))]) (by kernel_rfl) ?_
  refine ops_nil (nx_seq ?_)
  refine at_ifp ((Lib.indexByte [33, 35, 36, 37, 38, 39, 42, 43, 45, 47, 61, 63, 94, 95, 123, 124, 125, 126, 96] u : Int) ≥ (0 : Int)) (by kernel_rfl) (fun q17 => ?_) (fun q17 => ?_)
  refine at_exit (ex_seq (ex_past rfl (ex_past rfl (ex_past rfl (ex_seq (ex_here (nx_seq (at_seq (at_seq (at_region ?_))))))))))
  refine ops_run1 (l' := [(2, .int .i64 1)]) (by kernel_rfl) ?_
  refine ops_nil (nx_seq ?_)
  refine at_ret (rs := [.tmp 2]) (vs := [.int .i64 1]) rfl (by kernel_rfl) ?_
  exact ⟨_, rfl, (congrArg (Value.int .i64) (show (1 : Int) = kindI u.toNat from (by unfold kindI; rw [if_neg (by unfold letterP; omega), if_pos ((marks_ok u).1 (by omega))]))), ((Chg.refl [] w).step0 c5 (by omega))⟩
  refine at_skip (nx_seq (at_exit (ex_past rfl (ex_past rfl (ex_past rfl (ex_seq (ex_past rfl (ex_seq (ex_here (nx_seq (at_seq (at_region ?_))))))))))))
  refine ops_run1 (l' := [(2, .int .i64 0)]) (by kernel_rfl) ?_
  refine ops_nil (nx_seq ?_)
  refine at_ret (rs := [.tmp 2]) (vs := [.int .i64 0]) rfl (by kernel_rfl) ?_
  exact ⟨_, rfl, (congrArg (Value.int .i64) (show (0 : Int) = kindI u.toNat from ((kindI_0 _).2 (fun h => by have h2 := mt (marks_ok u).2 (by omega); unfold letterP at h; rcases h with h | h <;> first | omega | exact h2 h)).symm)), ((Chg.refl [] w).step0 c5 (by omega))⟩
  rw [show (decide (((u.toNat : Int) : Int) ≥ (48 : Int))) = false from decide_eq_false q15]
  refine ops_run4 (l' := [(0, .int .u8 ((u.toNat : Int))), (2, .int .i64 0), (17, .bool false)]) (by kernel_rfl) ?_
  refine ops_nil (nx_seq ?_)
  refine at_iff (by kernel_rfl) ?_
  refine at_skip (nx_seq (at_seq (at_region ?_)))
  refine ops_run1 (l' := [(2, .int .i64 0), (25, .int .u8 ((u.toNat : Int)))]) (by kernel_rfl) ?_
  refine ops_callr (by kernel_rfl) (by kernel_rfl) (by kernel_rfl) (strings_IndexByte_ok [33, 35, 36, 37, 38, 39, 42, 43, 45, 47, 61, 63, 94, 95, 123, 124, 125, 126, 96] u w) ?_
  rintro _ w6 ⟨rfl, c6⟩
  have z6 := c6.size
  refine ops_run2 (l' := [(2, .int .i64 0), (24, .bool (decide ((Lib.indexByte [33, 35, 36, 37, 38, 39, 42, 43, 45, 47, 61, 63, 94, 95, 123, 124, 125, 126, 96] u : Int) ≥ (0 : Int))))]) (by kernel_rfl) ?_
  refine ops_nil (nx_seq ?_)
  refine at_ifp ((Lib.indexByte [33, 35, 36, 37, 38, 39, 42, 43, 45, 47, 61, 63, 94, 95, 123, 124, 125, 126, 96] u : Int) ≥ (0 : Int)) (by kernel_rfl) (fun q18 => ?_) (fun q18 => ?_)
  refine at_exit (ex_seq (ex_past rfl (ex_past rfl (ex_past rfl (ex_seq (ex_here (nx_seq (at_seq (at_seq (at_region ?_))))))))))
  refine ops_run1 (l' := [(2, .int .i64 1)]) (by kernel_rfl) ?_
  refine ops_nil (nx_seq ?_)
  refine at_ret (rs := [.tmp 2]) (vs := [.int .i64 1]) rfl (by kernel_rfl) ?_
  exact ⟨_, rfl, (congrArg (Value.int .i64) (show (1 : Int) = kindI u.toNat from (by unfold kindI; rw [if_neg (by unfold letterP; omega), if_pos ((marks_ok u).1 (by omega))]))), ((Chg.refl [] w).step0 c6 (by omega))⟩
  refine at_skip (nx_seq (at_exit (ex_past rfl (ex_past rfl (ex_past rfl (ex_seq (ex_past rfl (ex_seq (ex_here (nx_seq (at_seq (at_region ?_))))))))))))
  refine ops_run1 (l' := [(2, .int .i64 0)]) (by kernel_rfl) ?_
  refine ops_nil (nx_seq ?_)
  refine at_ret (rs := [.tmp 2]) (vs := [.int .i64 0]) rfl (by kernel_rfl) ?_
  exact ⟨_, rfl, (congrArg (Value.int .i64) (show (0 : Int) = kindI u.toNat from ((kindI_0 _).2 (fun h => by have h2 := mt (marks_ok u).2 (by omega); unfold letterP at h; rcases h with h | h <;> first | omega | exact h2 h)).symm)), ((Chg.refl [] w).step0 c6 (by omega))⟩
  rw [show (decide (((u.toNat : Int) : Int) ≥ (65 : Int))) = false from decide_eq_false q13]
  refine ops_run4 (l' := [(0, .int .u8 ((u.toNat : Int))), (2, .int .i64 0), (10, .bool false)]) (by kernel_rfl) ?_
  refine ops_nil (nx_seq ?_)
  refine at_iff (by kernel_rfl) ?_
  refine at_skip (nx_seq (at_seq (at_seq (at_region ?_))))
  refine ops_run3 (l' := [(0, .int .u8 ((u.toNat : Int))), (2, .int .i64 0), (20, .bool (decide (((u.toNat : Int) : Int) ≥ (48 : Int))))]) (by kernel_rfl) ?_
  by_cases q19 : ((u.toNat : Int) : Int) ≥ (48 : Int)
  rw [show (decide (((u.toNat : Int) : Int) ≥ (48 : Int))) = true from decide_eq_true q19]
  refine ops_run4 (l' := [(0, .int .u8 ((u.toNat : Int))), (2, .int .i64 0), (17, .bool (decide (((u.toNat : Int) : Int) ≤ (57 : Int))))]) (by kernel_rfl) ?_
  refine ops_nil (nx_seq ?_)
  refine at_ifp (((u.toNat : Int) : Int) ≤ (57 : Int)) (by kernel_rfl) (fun q20 => ?_) (fun q20 => ?_)
  refine at_exit (ex_seq (ex_seq (ex_past rfl (ex_past rfl (ex_here (nx_seq (at_seq (at_seq (at_region ?_)))))))))
  refine ops_run1 (l' := [(2, .int .i64 2)]) (by kernel_rfl) ?_
  refine ops_nil (nx_seq ?_)
  refine at_ret (rs := [.tmp 2]) (vs := [.int .i64 2]) rfl (by kernel_rfl) ?_
  exact ⟨_, rfl, (congrArg (Value.int .i64) (show (2 : Int) = kindI u.toNat from ((kindI_2 _).2 (by unfold letterP; omega)).symm)), (Chg.refl [] w)⟩
  refine at_skip (nx_seq (at_seq (at_region ?_)))
  refine ops_run1 (l' := [(2, .int .i64 0), (25, .int .u8 ((u.toNat : Int)))]) (by kernel_rfl) ?_
  refine ops_callr (by kernel_rfl) (by kernel_rfl) (by kernel_rfl) (strings_IndexByte_ok [33, 35, 36, 37, 38, 39, 42, 43, 45, 47, 61, 63, 94, 95, 123, 124, 125, 126, 96] u w) ?_
  rintro _ w7 ⟨rfl, c7⟩
  have z7 := c7.size
  refine ops_run2 (l' := [(2, .int .i64 0), (24, .bool (decide ((Lib.indexByte [33, 35, 36, 37, 38, 39, 42, 43, 45, 47, 61, 63, 94, 95, 123, 124, 125, 126, 96] u : Int) ≥ (0 : Int))))]) (by kernel_rfl) ?_
  refine ops_nil (nx_seq ?_)
  refine at_ifp ((Lib.indexByte [33, 35, 36, 37, 38, 39, 42, 43, 45, 47, 61, 63, 94, 95, 123, 124, 125, 126, 96] u : Int) ≥ (0 : Int)) (by kernel_rfl) (fun q21 => ?_) (fun q21 => ?_)
  refine at_exit (ex_seq (ex_past rfl (ex_past rfl (ex_past rfl (ex_seq (ex_here (nx_seq (at_seq (at_seq (at_region ?_))))))))))
  refine ops_run1 (l' := [(2, .int .i64 1)]) (by kernel_rfl) ?_
  refine ops_nil (nx_seq ?_)
  refine at_ret (rs := [.tmp 2]) (vs := [.int .i64 1]) rfl (by kernel_rfl) ?_
  exact ⟨_, rfl, (congrArg (Value.int .i64) (show (1 : Int) = kindI u.toNat from (by unfold kindI; rw [if_neg (by unfold letterP; omega), if_pos ((marks_ok u).1 (by omega))]))), ((Chg.refl [] w).step0 c7 (by omega))⟩
  refine at_skip (nx_seq (at_exit (ex_past rfl (ex_past rfl (ex_past rfl (ex_seq (ex_past rfl (ex_seq (ex_here (nx_seq (at_seq (at_region ?_))))))))))))
  refine ops_run1 (l' := [(2, .int .i64 0)]) (by kernel_rfl) ?_
  refine ops_nil (nx_seq ?_)
  refine at_ret (rs := [.tmp 2]) (vs := [.int .i64 0]) rfl (by kernel_rfl) ?_
  exact ⟨_, rfl, (congrArg (Value.int .i64) (show (0 : Int) = kindI u.toNat from ((kindI_0 _).2 (fun h => by have h2 := mt (marks_ok u).2 (by omega); unfold letterP at h; rcases h with h | h <;> first | omega | exact h2 h)).symm)), ((Chg.refl [] w).step0 c7 (by omega))⟩
  rw [show (decide (((u.toNat : Int) : Int) ≥ (48 : Int))) = false from decide_eq_false q19]
  refine ops_run4 (l' := [(0, .int .u8 ((u.toNat : Int))), (2, .int .i64 0), (17, .bool false)]) (by kernel_rfl) ?_
  refine ops_nil (nx_seq ?_)
  refine at_iff (by kernel_rfl) ?_
  refine at_skip (nx_seq (at_seq (at_region ?_)))
  refine ops_run1 (l' := [(2, .int .i64 0), (25, .int .u8 ((u.toNat : Int)))]) (by kernel_rfl) ?_
  refine ops_callr (by kernel_rfl) (by kernel_rfl) (by kernel_rfl) (strings_IndexByte_ok [33, 35, 36, 37, 38, 39, 42, 43, 45, 47, 61, 63, 94, 95, 123, 124, 125, 126, 96] u w) ?_
  rintro _ w8 ⟨rfl, c8⟩
  have z8 := c8.size
  refine ops_run2 (l' := [(2, .int .i64 0), (24, .bool (decide ((Lib.indexByte [33, 35, 36, 37, 38, 39, 42, 43, 45, 47, 61, 63, 94, 95, 123, 124, 125, 126, 96] u : Int) ≥ (0 : Int))))]) (by kernel_rfl) ?_
  refine ops_nil (nx_seq ?_)
  refine at_ifp ((Lib.indexByte [33, 35, 36, 37, 38, 39, 42, 43, 45, 47, 61, 63, 94, 95, 123, 124, 125, 126, 96] u : Int) ≥ (0 : Int)) (by kernel_rfl) (fun q22 => ?_) (fun q22 => ?_)
  refine at_exit (ex_seq (ex_past rfl (ex_past rfl (ex_past rfl (ex_seq (ex_here (nx_seq (at_seq (at_seq (at_region ?_))))))))))
  refine ops_run1 (l' := [(2, .int .i64 1)]) (by kernel_rfl) ?_
  refine ops_nil (nx_seq ?_)
  refine at_ret (rs := [.tmp 2]) (vs := [.int .i64 1]) rfl (by kernel_rfl) ?_
  exact ⟨_, rfl, (congrArg (Value.int .i64) (show (1 : Int) = kindI u.toNat from (by unfold kindI; rw [if_neg (by unfold letterP; omega), if_pos ((marks_ok u).1 (by omega))]))), ((Chg.refl [] w).step0 c8 (by omega))⟩
  refine at_skip (nx_seq (at_exit (ex_past rfl (ex_past rfl (ex_past rfl (ex_seq (ex_past rfl (ex_seq (ex_here (nx_seq (at_seq (at_region ?_))))))))))))
  refine ops_run1 (l' := [(2, .int .i64 0)]) (by kernel_rfl) ?_
  refine ops_nil (nx_seq ?_)
  refine at_ret (rs := [.tmp 2]) (vs := [.int .i64 0]) rfl (by kernel_rfl) ?_
  exact ⟨_, rfl, (congrArg (Value.int .i64) (show (0 : Int) = kindI u.toNat from ((kindI_0 _).2 (fun h => by have h2 := mt (marks_ok u).2 (by omega); unfold letterP at h; rcases h with h | h <;> first | omega | exact h2 h)).symm)), ((Chg.refl [] w).step0 c8 (by omega))⟩
theorem letter_ok (u : UInt8) (w : World) : Pu Tryd.prog 170 #[.int .u8 u.toNat] w (.bool (decide (letterP u.toNat))) := by
  refine enter (n := 25) (args := [.int .u8 ((u.toNat : Int))]) Tryd.func170 rfl rfl (Nat.le_of_ble_eq_true (by kernel_rfl)) ?_
  refine at_seq (at_region ?_)
  refine ops_run1 (l' := [(0, .int .u8 ((u.toNat : Int))), (2, .bool false)]) (by kernel_rfl) ?_
  refine ops_nil (nx_seq (at_seq (at_region ?_)))
  refine ops_run3 (l' := [(0, .int .u8 ((u.toNat : Int))), (2, .bool false), (5, .bool (decide (((u.toNat : Int) : Int) ≥ (97 : Int))))]) (by kernel_rfl) ?_
  by_cases q1 : ((u.toNat : Int) : Int) ≥ (97 : Int)
  rw [show (decide (((u.toNat : Int) : Int) ≥ (97 : Int))) = true from decide_eq_true q1]
  refine ops_run4 (l' := [(0, .int .u8 ((u.toNat : Int))), (2, .bool false), (9, .bool (decide (((u.toNat : Int) : Int) ≤ (122 : Int))))]) (by kernel_rfl) ?_
  by_cases q2 : ((u.toNat : Int) : Int) ≤ (122 : Int)
  rw [show (decide (((u.toNat : Int) : Int) ≤ (122 : Int))) = true from decide_eq_true q2]
  refine ops_run16 (l' := [(2, .bool true)]) (by kernel_rfl) ?_
  refine ops_nil (nx_seq ?_)
  refine at_ret (rs := [.tmp 2]) (vs := [.bool true]) rfl (by kernel_rfl) ?_
  exact ⟨_, rfl, (congrArg Value.bool (decide_eq_true (p := letterP (u.toNat : Int)) (by unfold letterP; omega)).symm), (Chg.refl [] w)⟩
  rw [show (decide (((u.toNat : Int) : Int) ≤ (122 : Int))) = false from decide_eq_false q2]
  refine ops_run3 (l' := [(0, .int .u8 ((u.toNat : Int))), (2, .bool false), (9, .bool false), (12, .bool (decide (((u.toNat : Int) : Int) ≥ (65 : Int))))]) (by kernel_rfl) ?_
  by_cases q3 : ((u.toNat : Int) : Int) ≥ (65 : Int)
  rw [show (decide (((u.toNat : Int) : Int) ≥ (65 : Int))) = true from decide_eq_true q3]
  refine ops_run5 (l' := [(0, .int .u8 ((u.toNat : Int))), (2, .bool false), (17, .bool (decide (((u.toNat : Int) : Int) ≤ (90 : Int))))]) (by kernel_rfl) ?_
  by_cases q4 : ((u.toNat : Int) : Int) ≤ (90 : Int)
  rw [show (decide (((u.toNat : Int) : Int) ≤ (90 : Int))) = true from decide_eq_true q4]
  refine ops_run8 (l' := [(2, .bool true)]) (by kernel_rfl) ?_
  refine ops_nil (nx_seq ?_)
  refine at_ret (rs := [.tmp 2]) (vs := [.bool true]) rfl (by kernel_rfl) ?_
  exact ⟨_, rfl, (congrArg Value.bool (decide_eq_true (p := letterP (u.toNat : Int)) (by unfold letterP; omega)).symm), (Chg.refl [] w)⟩
  rw [show (decide (((u.toNat : Int) : Int) ≤ (90 : Int))) = false from decide_eq_false q4]
  refine ops_run3 (l' := [(0, .int .u8 ((u.toNat : Int))), (2, .bool false), (17, .bool false), (20, .bool (decide (((u.toNat : Int) : Int) ≥ (48 : Int))))]) (by kernel_rfl) ?_
  by_cases q5 : ((u.toNat : Int) : Int) ≥ (48 : Int)
  rw [show (decide (((u.toNat : Int) : Int) ≥ (48 : Int))) = true from decide_eq_true q5]
  refine ops_run5 (l' := [(2, .bool (decide (((u.toNat : Int) : Int) ≤ (57 : Int))))]) (by kernel_rfl) ?_
  refine ops_nil (nx_seq ?_)
  refine at_ret (rs := [.tmp 2]) (vs := [.bool (decide (((u.toNat : Int) : Int) ≤ (57 : Int)))]) rfl (by kernel_rfl) ?_
  exact ⟨_, rfl, (congrArg Value.bool (decide_eq_decide.2 (show (((u.toNat : Int) : Int) ≤ (57 : Int)) ↔ (letterP (u.toNat : Int)) by unfold letterP; omega))), (Chg.refl [] w)⟩
  rw [show (decide (((u.toNat : Int) : Int) ≥ (48 : Int))) = false from decide_eq_false q5]
  refine ops_run5 (l' := [(2, .bool false)]) (by kernel_rfl) ?_
  refine ops_nil (nx_seq ?_)
  refine at_ret (rs := [.tmp 2]) (vs := [.bool false]) rfl (by kernel_rfl) ?_
  exact ⟨_, rfl, (congrArg Value.bool (decide_eq_false (p := letterP (u.toNat : Int)) (by unfold letterP; omega)).symm), (Chg.refl [] w)⟩
  rw [show (decide (((u.toNat : Int) : Int) ≥ (65 : Int))) = false from decide_eq_false q3]
  refine ops_run8 (l' := [(0, .int .u8 ((u.toNat : Int))), (2, .bool false), (17, .bool false), (20, .bool (decide (((u.toNat : Int) : Int) ≥ (48 : Int))))]) (by kernel_rfl) ?_
  by_cases q6 : ((u.toNat : Int) : Int) ≥ (48 : Int)
  rw [show (decide (((u.toNat : Int) : Int) ≥ (48 : Int))) = true from decide_eq_true q6]
  refine ops_run5 (l' := [(2, .bool (decide (((u.toNat : Int) : Int) ≤ (57 : Int))))]) (by kernel_rfl) ?_
  refine ops_nil (nx_seq ?_)
  refine at_ret (rs := [.tmp 2]) (vs := [.bool (decide (((u.toNat : Int) : Int) ≤ (57 : Int)))]) rfl (by kernel_rfl) ?_
  exact ⟨_, rfl, (congrArg Value.bool (decide_eq_decide.2 (show (((u.toNat : Int) : Int) ≤ (57 : Int)) ↔ (letterP (u.toNat : Int)) by unfold letterP; omega))), (Chg.refl [] w)⟩
  rw [show (decide (((u.toNat : Int) : Int) ≥ (48 : Int))) = false from decide_eq_false q6]
  refine ops_run5 (l' := [(2, .bool false)]) (by kernel_rfl) ?_
  refine ops_nil (nx_seq ?_)
  refine at_ret (rs := [.tmp 2]) (vs := [.bool false]) rfl (by kernel_rfl) ?_
  exact ⟨_, rfl, (congrArg Value.bool (decide_eq_false (p := letterP (u.toNat : Int)) (by unfold letterP; omega)).symm), (Chg.refl [] w)⟩
  rw [show (decide (((u.toNat : Int) : Int) ≥ (97 : Int))) = false from decide_eq_false q1]
  refine ops_run7 (l' := [(0, .int .u8 ((u.toNat : Int))), (2, .bool false), (9, .bool false), (12, .bool (decide (((u.toNat : Int) : Int) ≥ (65 : Int))))]) (by kernel_rfl) ?_
  by_cases q7 : ((u.toNat : Int) : Int) ≥ (65 : Int)
  rw [show (decide (((u.toNat : Int) : Int) ≥ (65 : Int))) = true from decide_eq_true q7]
  refine ops_run5 (l' := [(0, .int .u8 ((u.toNat : Int))), (2, .bool false), (17, .bool (decide (((u.toNat : Int) : Int) ≤ (90 : Int))))]) (by kernel_rfl) ?_
  by_cases q8 : ((u.toNat : Int) : Int) ≤ (90 : Int)
  rw [show (decide (((u.toNat : Int) : Int) ≤ (90 : Int))) = true from decide_eq_true q8]
  refine ops_run8 (l' := [(2, .bool true)]) (by kernel_rfl) ?_
  refine ops_nil (nx_seq ?_)
  refine at_ret (rs := [.tmp 2]) (vs := [.bool true]) rfl (by kernel_rfl) ?_
  exact ⟨_, rfl, (congrArg Value.bool (decide_eq_true (p := letterP (u.toNat : Int)) (by unfold letterP; omega)).symm), (Chg.refl [] w)⟩
  rw [show (decide (((u.toNat : Int) : Int) ≤ (90 : Int))) = false from decide_eq_false q8]
  refine ops_run3 (l' := [(0, .int .u8 ((u.toNat : Int))), (2, .bool false), (17, .bool false), (20, .bool (decide (((u.toNat : Int) : Int) ≥ (48 : Int))))]) (by kernel_rfl) ?_
  by_cases q9 : ((u.toNat : Int) : Int) ≥ (48 : Int)
  rw [show (decide (((u.toNat : Int) : Int) ≥ (48 : Int))) = true from decide_eq_true q9]
  refine ops_run5 (l' := [(2, .bool (decide (((u.toNat : Int) : Int) ≤ (57 : Int))))]) (by kernel_rfl) ?_
  refine ops_nil (nx_seq ?_)
  refine at_ret (rs := [.tmp 2]) (vs := [.bool (decide (((u.toNat : Int) : Int) ≤ (57 : Int)))]) rfl (by kernel_rfl) ?_
  exact ⟨_, rfl, (congrArg Value.bool (decide_eq_decide.2 (show (((u.toNat : Int) : Int) ≤ (57 : Int)) ↔ (letterP (u.toNat : Int)) by unfold letterP; omega))), (Chg.refl [] w)⟩
  rw [show (decide (((u.toNat : Int) : Int) ≥ (48 : Int))) = false from decide_eq_false q9]
  refine ops_run5 (l' := [(2, .bool false)]) (by kernel_rfl) ?_
  refine ops_nil (nx_seq ?_)
  refine at_ret (rs := [.tmp 2]) (vs := [.bool false]) rfl (by kernel_rfl) ?_
  exact ⟨_, rfl, (congrArg Value.bool (decide_eq_false (p := letterP (u.toNat : Int)) (by unfold letterP; omega)).symm), (Chg.refl [] w)⟩
  rw [show (decide (((u.toNat : Int) : Int) ≥ (65 : Int))) = false from decide_eq_false q7]
  refine ops_run8 (l' := [(0, .int .u8 ((u.toNat : Int))), (2, .bool false), (17, .bool false), (20, .bool (decide (((u.toNat : Int) : Int) ≥ (48 : Int))))]) (by kernel_rfl) ?_
  by_cases q10 : ((u.toNat : Int) : Int) ≥ (48 : Int)
  rw [show (decide (((u.toNat : Int) : Int) ≥ (48 : Int))) = true from decide_eq_true q10]
  refine ops_run5 (l' := [(2, .bool (decide (((u.toNat : Int) : Int) ≤ (57 : Int))))]) (by kernel_rfl) ?_
  refine ops_nil (nx_seq ?_)
  refine at_ret (rs := [.tmp 2]) (vs := [.bool (decide (((u.toNat : Int) : Int) ≤ (57 : Int)))]) rfl (by kernel_rfl) ?_
  exact ⟨_, rfl, (congrArg Value.bool (decide_eq_decide.2 (show (((u.toNat : Int) : Int) ≤ (57 : Int)) ↔ (letterP (u.toNat : Int)) by unfold letterP; omega))), (Chg.refl [] w)⟩
  rw [show (decide (((u.toNat : Int) : Int) ≥ (48 : Int))) = false from decide_eq_false q10]
  refine ops_run5 (l' := [(2, .bool false)]) (by kernel_rfl) ?_
  refine ops_nil (nx_seq ?_)
  refine at_ret (rs := [.tmp 2]) (vs := [.bool false]) rfl (by kernel_rfl) ?_
  exact ⟨_, rfl, (congrArg Value.bool (decide_eq_false (p := letterP (u.toNat : Int)) (by unfold letterP; omega)).symm), (Chg.refl [] w)⟩
theorem atom_ok (u : UInt8) (w : World) : Pu Tryd.prog 142 #[.int .u8 u.toNat] w (.bool (decide (letterP u.toNat ∨ markP u.toNat))) := by
  refine enter (n := 26) (args := [.int .u8 ((u.toNat : Int))]) Tryd.func142 rfl rfl (Nat.le_of_ble_eq_true (by kernel_rfl)) ?_
  refine at_seq (at_region ?_)
  refine ops_run1 (l' := [(0, .int .u8 ((u.toNat : Int))), (2, .bool false)]) (by kernel_rfl) ?_
  refine ops_nil (nx_seq (at_seq (at_seq (at_region ?_))))
  refine ops_run1 (l' := [(0, .int .u8 ((u.toNat : Int))), (2, .bool false), (3, .int .u8 ((u.toNat : Int)))]) (by kernel_rfl) ?_
  refine ops_callr (by kernel_rfl) (by kernel_rfl) (by kernel_rfl) (letter_ok u w) ?_
  rintro _ w1 ⟨rfl, c1⟩
  have z1 := c1.size
  refine ops_nil (nx_seq ?_)
  refine at_ifp (letterP ((u.toNat : Int))) (by kernel_rfl) (fun q1 => ?_) (fun q1 => ?_)
  refine at_seq (at_region ?_)
  refine ops_run1 (l' := [(0, .int .u8 ((u.toNat : Int))), (2, .bool true)]) (by kernel_rfl) ?_
  refine ops_nil (nx_seq ?_)
  refine at_ret (rs := [.tmp 2]) (vs := [.bool true]) rfl (by kernel_rfl) ?_
  exact ⟨_, rfl, (congrArg Value.bool (decide_eq_true (p := letterP (u.toNat : Int) ∨ markP (u.toNat : Int)) (by unfold markP; first | exact .inl (by assumption) | (refine .inr ?_; omega) | (rintro (h | h) <;> first | contradiction | omega))).symm), ((Chg.refl [] w).step0 c1 (by omega))⟩
  refine at_skip (nx_seq (at_seq (at_seq (at_region ?_))))
  refine ops_run1 (l' := [(2, .bool false), (5, .int .u8 ((u.toNat : Int)))]) (by kernel_rfl) ?_
  refine ops_nil (nx_seq (at_block (at_seq (at_seq (at_region ?_)))))
  refine ops_run2 (l' := [(2, .bool false), (5, .int .u8 ((u.toNat : Int))), (6, .bool (decide (((u.toNat : Int) : Int) = (33 : Int))))]) (by kernel_rfl) ?_
  refine ops_nil (nx_seq ?_)
  refine at_ifp (((u.toNat : Int) : Int) = (33 : Int)) (by kernel_rfl) (fun q2 => ?_) (fun q2 => ?_)
  refine at_skip (nx_seq ?_)
  refine at_ifp (((u.toNat : Int) : Int) = (33 : Int)) (by kernel_rfl) (fun q3 => ?_) (fun q3 => ?_)
  refine at_seq (at_region ?_)
  refine ops_run1 (l' := [(2, .bool true)]) (by kernel_rfl) ?_
  refine ops_nil (nx_seq ?_)
  refine at_ret (rs := [.tmp 2]) (vs := [.bool true]) rfl (by kernel_rfl) ?_
  exact ⟨_, rfl, (congrArg Value.bool (decide_eq_true (p := letterP (u.toNat : Int) ∨ markP (u.toNat : Int)) (by unfold markP; first | exact .inl (by assumption) | (refine .inr ?_; omega) | (rintro (h | h) <;> first | contradiction | omega))).symm), ((Chg.refl [] w).step0 c1 (by omega))⟩
  refine at_skip (nx_blk (nx_seq (at_seq (at_region ?_))))
  refine ops_run1 (l' := [(2, .bool false)]) (by kernel_rfl) ?_
  refine ops_nil (nx_seq ?_)
  refine at_ret (rs := [.tmp 2]) (vs := [.bool false]) rfl (by kernel_rfl) ?_
  exact ⟨_, rfl, (congrArg Value.bool (decide_eq_false (p := letterP (u.toNat : Int) ∨ markP (u.toNat : Int)) (by unfold markP; first | exact .inl (by assumption) | (refine .inr ?_; omega) | (rintro (h | h) <;> first | contradiction | omega))).symm), ((Chg.refl [] w).step0 c1 (by omega))⟩
  refine at_seq (at_region ?_)
  refine ops_run2 (l' := [(2, .bool false), (5, .int .u8 ((u.toNat : Int))), (6, .bool (decide (((u.toNat : Int) : Int) = (35 : Int))))]) (by kernel_rfl) ?_
  refine ops_nil (nx_seq ?_)
  refine at_ifp (((u.toNat : Int) : Int) = (35 : Int)) (by kernel_rfl) (fun q4 => ?_) (fun q4 => ?_)
  refine at_skip (nx_seq ?_)
  refine at_ifp (((u.toNat : Int) : Int) = (35 : Int)) (by kernel_rfl) (fun q5 => ?_) (fun q5 => ?_)
  refine at_seq (at_region ?_)
  refine ops_run1 (l' := [(2, .bool true)]) (by kernel_rfl) ?_
  refine ops_nil (nx_seq ?_)
  refine at_ret (rs := [.tmp 2]) (vs := [.bool true]) rfl (by kernel_rfl) ?_
  exact ⟨_, rfl, (congrArg Value.bool (decide_eq_true (p := letterP (u.toNat : Int) ∨ markP (u.toNat : Int)) (by unfold markP; first | exact .inl (by assumption) | (refine .inr ?_; omega) | (rintro (h | h) <;> first | contradiction | omega))).symm), ((Chg.refl [] w).step0 c1 (by omega))⟩
  refine at_skip (nx_blk (nx_seq (at_seq (at_region ?_))))
  refine ops_run1 (l' := [(2, .bool false)]) (by kernel_rfl) ?_
  refine ops_nil (nx_seq ?_)
  refine at_ret (rs := [.tmp 2]) (vs := [.bool false]) rfl (by kernel_rfl) ?_
  exact ⟨_, rfl, (congrArg Value.bool (decide_eq_false (p := letterP (u.toNat : Int) ∨ markP (u.toNat : Int)) (by unfold markP; first | exact .inl (by assumption) | (refine .inr ?_; omega) | (rintro (h | h) <;> first | contradiction | omega))).symm), ((Chg.refl [] w).step0 c1 (by omega))⟩
  refine at_seq (at_region ?_)
  refine ops_run2 (l' := [(2, .bool false), (5, .int .u8 ((u.toNat : Int))), (6, .bool (decide (((u.toNat : Int) : Int) = (36 : Int))))]) (by kernel_rfl) ?_
  refine ops_nil (nx_seq ?_)
  refine at_ifp (((u.toNat : Int) : Int) = (36 : Int)) (by kernel_rfl) (fun q6 => ?_) (fun q6 => ?_)
  refine at_skip (nx_seq ?_)
  refine at_ifp (((u.toNat : Int) : Int) = (36 : Int)) (by kernel_rfl) (fun q7 => ?_) (fun q7 => ?_)
  refine at_seq (at_region ?_)
  refine ops_run1 (l' := [(2, .bool true)]) (by kernel_rfl) ?_
  refine ops_nil (nx_seq ?_)
  refine at_ret (rs := [.tmp 2]) (vs := [.bool true]) rfl (by kernel_rfl) ?_
  exact ⟨_, rfl, (congrArg Value.bool (decide_eq_true (p := letterP (u.toNat : Int) ∨ markP (u.toNat : Int)) (by unfold markP; first | exact .inl (by assumption) | (refine .inr ?_; omega) | (rintro (h | h) <;> first | contradiction | omega))).symm), ((Chg.refl [] w).step0 c1 (by omega))⟩
  refine at_skip (nx_blk (nx_seq (at_seq (at_region ?_))))
  refine ops_run1 (l' := [(2, .bool false)]) (by kernel_rfl) ?_
  refine ops_nil (nx_seq ?_)
  refine at_ret (rs := [.tmp 2]) (vs := [.bool false]) rfl (by kernel_rfl) ?_
  exact ⟨_, rfl, (congrArg Value.bool (decide_eq_false (p := letterP (u.toNat : Int) ∨ markP (u.toNat : Int)) (by unfold markP; first | exact .inl (by assumption) | (refine .inr ?_; omega) | (rintro (h | h) <;> first | contradiction | omega))).symm), ((Chg.refl [] w).step0 c1 (by omega))⟩
  refine at_seq (at_region ?_)
  refine ops_run2 (l' := [(2, .bool false), (5, .int .u8 ((u.toNat : Int))), (6, .bool (decide (((u.toNat : Int) : Int) = (37 : Int))))]) (by kernel_rfl) ?_
  refine ops_nil (nx_seq ?_)
  refine at_ifp (((u.toNat : Int) : Int) = (37 : Int)) (by kernel_rfl) (fun q8 => ?_) (fun q8 => ?_)
  refine at_skip (nx_seq ?_)
  refine at_ifp (((u.toNat : Int) : Int) = (37 : Int)) (by kernel_rfl) (fun q9 => ?_) (fun q9 => ?_)
  refine at_seq (at_region ?_)
  refine ops_run1 (l' := [(2, .bool true)]) (by kernel_rfl) ?_
  refine ops_nil (nx_seq ?_)
  refine at_ret (rs := [.tmp 2]) (vs := [.bool true]) rfl (by kernel_rfl) ?_
  exact ⟨_, rfl, (congrArg Value.bool (decide_eq_true (p := letterP (u.toNat : Int) ∨ markP (u.toNat : Int)) (by unfold markP; first | exact .inl (by assumption) | (refine .inr ?_; omega) | (rintro (h | h) <;> first | contradiction | omega))).symm), ((Chg.refl [] w).step0 c1 (by omega))⟩
  refine at_skip (nx_blk (nx_seq (at_seq (at_region ?_))))
  refine ops_run1 (l' := [(2, .bool false)]) (by kernel_rfl) ?_
  refine ops_nil (nx_seq ?_)
  refine at_ret (rs := [.tmp 2]) (vs := [.bool false]) rfl (by kernel_rfl) ?_
  exact ⟨_, rfl, (congrArg Value.bool (decide_eq_false (p := letterP (u.toNat : Int) ∨ markP (u.toNat : Int)) (by unfold markP; first | exact .inl (by assumption) | (refine .inr ?_; omega) | (rintro (h | h) <;> first | contradiction | omega))).symm), ((Chg.refl [] w).step0 c1 (by omega))⟩
  refine at_seq (at_region ?_)
  refine ops_run2 (l' := [(2, .bool false), (5, .int .u8 ((u.toNat : Int))), (6, .bool (decide (((u.toNat : Int) : Int) = (38 : Int))))]) (by kernel_rfl) ?_
  refine ops_nil (nx_seq ?_)
  refine at_ifp (((u.toNat : Int) : Int) = (38 : Int)) (by kernel_rfl) (fun q10 => ?_) (fun q10 => ?_)
  refine at_skip (nx_seq ?_)
  refine at_ifp (((u.toNat : Int) : Int) = (38 : Int)) (by kernel_rfl) (fun q11 => ?_) (fun q11 => ?_)
  refine at_seq (at_region ?_)
  refine ops_run1 (l' := [(2, .bool true)]) (by kernel_rfl) ?_
  refine ops_nil (nx_seq ?_)
  refine at_ret (rs := [.tmp 2]) (vs := [.bool true]) rfl (by kernel_rfl) ?_
  exact ⟨_, rfl, (congrArg Value.bool (decide_eq_true (p := letterP (u.toNat : Int) ∨ markP (u.toNat : Int)) (by unfold markP; first | exact .inl (by assumption) | (refine .inr ?_; omega) | (rintro (h | h) <;> first | contradiction | omega))).symm), ((Chg.refl [] w).step0 c1 (by omega))⟩
  refine at_skip (nx_blk (nx_seq (at_seq (at_region ?_))))
  refine ops_run1 (l' := [(2, .bool false)]) (by kernel_rfl) ?_
  refine ops_nil (nx_seq ?_)
  refine at_ret (rs := [.tmp 2]) (vs := [.bool false]) rfl (by kernel_rfl) ?_
  exact ⟨_, rfl, (congrArg Value.bool (decide_eq_false (p := letterP (u.toNat : Int) ∨ markP (u.toNat : Int)) (by unfold markP; first | exact .inl (by assumption) | (refine .inr ?_; omega) | (rintro (h | h) <;> first | contradiction | omega))).symm), ((Chg.refl [] w).step0 c1 (by omega))⟩
  refine at_seq (at_region ?_)
  refine ops_run2 (l' := [(2, .bool false), (5, .int .u8 ((u.toNat : Int))), (6, .bool (decide (((u.toNat : Int) : Int) = (39 : Int))))]) (by kernel_rfl) ?_
  refine ops_nil (nx_seq ?_)
  refine at_ifp (((u.toNat : Int) : Int) = (39 : Int)) (by kernel_rfl) (fun q12 => ?_) (fun q12 => ?_)
  refine at_skip (nx_seq ?_)
  refine at_ifp (((u.toNat : Int) : Int) = (39 : Int)) (by kernel_rfl) (fun q13 => ?_) (fun q13 => ?_)
  refine at_seq (at_region ?_)
  refine ops_run1 (l' := [(2, .bool true)]) (by kernel_rfl) ?_
  refine ops_nil (nx_seq ?_)
  refine at_ret (rs := [.tmp 2]) (vs := [.bool true]) rfl (by kernel_rfl) ?_
  exact ⟨_, rfl, (congrArg Value.bool (decide_eq_true (p := letterP (u.toNat : Int) ∨ markP (u.toNat : Int)) (by unfold markP; first | exact .inl (by assumption) | (refine .inr ?_; omega) | (rintro (h | h) <;> first | contradiction | omega))).symm), ((Chg.refl [] w).step0 c1 (by omega))⟩
  refine at_skip (nx_blk (nx_seq (at_seq (at_region ?_))))
  refine ops_run1 (l' := [(2, .bool false)]) (by kernel_rfl) ?_
  refine ops_nil (nx_seq ?_)
  refine at_ret (rs := [.tmp 2]) (vs := [.bool false]) rfl (by kernel_rfl) ?_
  exact ⟨_, rfl, (congrArg Value.bool (decide_eq_false (p := letterP (u.toNat : Int) ∨ markP (u.toNat : Int)) (by unfold markP; first | exact .inl (by assumption) | (refine .inr ?_; omega) | (rintro (h | h) <;> first | contradiction | omega))).symm), ((Chg.refl [] w).step0 c1 (by omega))⟩
  refine at_seq (at_region ?_)
  refine ops_run2 (l' := [(2, .bool false), (5, .int .u8 ((u.toNat : Int))), (6, .bool (decide (((u.toNat : Int) : Int) = (42 : Int))))]) (by kernel_rfl) ?_
  refine ops_nil (nx_seq ?_)
  refine at_ifp (((u.toNat : Int) : Int) = (42 : Int)) (by kernel_rfl) (fun q14 => ?_) (fun q14 => ?_)
  refine at_skip (nx_seq ?_)
  refine at_ifp (((u.toNat : Int) : Int) = (42 : Int)) (by kernel_rfl) (fun q15 => ?_) (fun q15 => ?_)
  refine at_seq (at_region ?_)
  refine ops_run1 (l' := [(2, .bool true)]) (by kernel_rfl) ?_
  refine ops_nil (nx_seq ?_)
  refine at_ret (rs := [.tmp 2]) (vs := [.bool true]) rfl (by kernel_rfl) ?_
  exact ⟨_, rfl, (congrArg Value.bool (decide_eq_true (p := letterP (u.toNat : Int) ∨ markP (u.toNat : Int)) (by unfold markP; first | exact .inl (by assumption) | (refine .inr ?_; omega) | (rintro (h | h) <;> first | contradiction | omega))).symm), ((Chg.refl [] w).step0 c1 (by omega))⟩
  refine at_skip (nx_blk (nx_seq (at_seq (at_region ?_))))
  refine ops_run1 (l' := [(2, .bool false)]) (by kernel_rfl) ?_
  refine ops_nil (nx_seq ?_)
  refine at_ret (rs := [.tmp 2]) (vs := [.bool false]) rfl (by kernel_rfl) ?_
  exact ⟨_, rfl, (congrArg Value.bool (decide_eq_false (p := letterP (u.toNat : Int) ∨ markP (u.toNat : Int)) (by unfold markP; first | exact .inl (by assumption) | (refine .inr ?_; omega) | (rintro (h | h) <;> first | contradiction | omega))).symm), ((Chg.refl [] w).step0 c1 (by omega))⟩
  refine at_seq (at_region ?_)
  refine ops_run2 (l' := [(2, .bool false), (5, .int .u8 ((u.toNat : Int))), (6, .bool (decide (((u.toNat : Int) : Int) = (43 : Int))))]) (by kernel_rfl) ?_
  refine ops_nil (nx_seq ?_)
  refine at_ifp (((u.toNat : Int) : Int) = (43 : Int)) (by kernel_rfl) (fun q16 => ?_) (fun q16 => ?_)
  refine at_skip (nx_seq ?_)
  refine at_ifp (((u.toNat : Int) : Int) = (43 : Int)) (by kernel_rfl) (fun q17 => ?_) (fun q17 => ?_)
  refine at_seq (at_region ?_)
  refine ops_run1 (l' := [(2, .bool true)]) (by kernel_rfl) ?_
  refine ops_nil (nx_seq ?_)
  refine at_ret (rs := [.tmp 2]) (vs := [.bool true]) rfl (by kernel_rfl) ?_
  exact ⟨_, rfl, (congrArg Value.bool (decide_eq_true (p := letterP (u.toNat : Int) ∨ markP (u.toNat : Int)) (by unfold markP; first | exact .inl (by assumption) | (refine .inr ?_; omega) | (rintro (h | h) <;> first | contradiction | omega))).symm), ((Chg.refl [] w).step0 c1 (by omega))⟩
  refine at_skip (nx_blk (nx_seq (at_seq (at_region ?_))))
  refine ops_run1 (l' := [(2, .bool false)]) (by kernel_rfl) ?_
  refine ops_nil (nx_seq ?_)
  refine at_ret (rs := [.tmp 2]) (vs := [.bool false]) rfl (by kernel_rfl) ?_
  exact ⟨_, rfl, (congrArg Value.bool (decide_eq_false (p := letterP (u.toNat : Int) ∨ markP (u.toNat : Int)) (by unfold markP; first | exact .inl (by assumption) | (refine .inr ?_; omega) | (rintro (h | h) <;> first | contradiction | omega))).symm), ((Chg.refl [] w).step0 c1 (by omega))⟩
  refine at_seq (at_region ?_)
  refine ops_run2 (l' := [(2, .bool false), (5, .int .u8 ((u.toNat : Int))), (6, .bool (decide (((u.toNat : Int) : Int) = (45 : Int))))]) (by kernel_rfl) ?_
  refine ops_nil (nx_seq ?_)
  refine at_ifp (((u.toNat : Int) : Int) = (45 : Int)) (by kernel_rfl) (fun q18 => ?_) (fun q18 => ?_)
  refine at_skip (nx_seq ?_)
  refine at_ifp (((u.toNat : Int) : Int) = (45 : Int)) (by kernel_rfl) (fun q19 => ?_) (fun q19 => ?_)
  refine at_seq (at_region ?_)
  refine ops_run1 (l' := [(2, .bool true)]) (by kernel_rfl) ?_
  refine ops_nil (nx_seq ?_)
  refine at_ret (rs := [.tmp 2]) (vs := [.bool true]) rfl (by kernel_rfl) ?_
  exact ⟨_, rfl, (congrArg Value.bool (decide_eq_true (p := letterP (u.toNat : Int) ∨ markP (u.toNat : Int)) (by unfold markP; first | exact .inl (by assumption) | (refine .inr ?_; omega) | (rintro (h | h) <;> first | contradiction | omega))).symm), ((Chg.refl [] w).step0 c1 (by omega))⟩
  refine at_skip (nx_blk (nx_seq (at_seq (at_region ?_))))
  refine ops_run1 (l' := [(2, .bool false)]) (by kernel_rfl) ?_
  refine ops_nil (nx_seq ?_)
  refine at_ret (rs := [.tmp 2]) (vs := [.bool false]) rfl (by kernel_rfl) ?_
  exact ⟨_, rfl, (congrArg Value.bool (decide_eq_false (p := letterP (u.toNat : Int) ∨ markP (u.toNat : Int)) (by unfold markP; first | exact .inl (by assumption) | (refine .inr ?_; omega) | (rintro (h | h) <;> first | contradiction | omega))).symm), ((Chg.refl [] w).step0 c1 (by omega))⟩
  refine at_seq (at_region ?_)
  refine ops_run2 (l' := [(2, .bool false), (5, .int .u8 ((u.toNat : Int))), (6, .bool (decide (((u.toNat : Int) : Int) = (47 : Int))))]) (by kernel_rfl) ?_
  refine ops_nil (nx_seq ?_)
  refine at_ifp (((u.toNat : Int) : Int) = (47 : Int)) (by kernel_rfl) (fun q20 => ?_) (fun q20 => ?_)
  refine at_skip (nx_seq ?_)
  refine at_ifp (((u.toNat : Int) : Int) = (47 : Int)) (by kernel_rfl) (fun q21 => ?_) (fun q21 => ?_)
  refine at_seq (at_region ?_)
  refine ops_run1 (l' := [(2, .bool true)]) (by kernel_rfl) ?_
  refine ops_nil (nx_seq ?_)
  refine at_ret (rs := [.tmp 2]) (vs := [.bool true]) rfl (by kernel_rfl) ?_
  exact ⟨_, rfl, (congrArg Value.bool (decide_eq_true (p := letterP (u.toNat : Int) ∨ markP (u.toNat : Int)) (by unfold markP; first | exact .inl (by assumption) | (refine .inr ?_; omega) | (rintro (h | h) <;> first | contradiction | omega))).symm), ((Chg.refl [] w).step0 c1 (by omega))⟩
  refine at_skip (nx_blk (nx_seq (at_seq (at_region ?_))))
  refine ops_run1 (l' := [(2, .bool false)]) (by kernel_rfl) ?_
  refine ops_nil (nx_seq ?_)
  refine at_ret (rs := [.tmp 2]) (vs := [.bool false]) rfl (by kernel_rfl) ?_
  exact ⟨_, rfl, (congrArg Value.bool (decide_eq_false (p := letterP (u.toNat : Int) ∨ markP (u.toNat : Int)) (by unfold markP; first | exact .inl (by assumption) | (refine .inr ?_; omega) | (rintro (h | h) <;> first | contradiction | omega))).symm), ((Chg.refl [] w).step0 c1 (by omega))⟩
  refine at_seq (at_region ?_)
  refine ops_run2 (l' := [(2, .bool false), (5, .int .u8 ((u.toNat : Int))), (6, .bool (decide (((u.toNat : Int) : Int) = (61 : Int))))]) (by kernel_rfl) ?_
  refine ops_nil (nx_seq ?_)
  refine at_ifp (((u.toNat : Int) : Int) = (61 : Int)) (by kernel_rfl) (fun q22 => ?_) (fun q22 => ?_)
  refine at_skip (nx_seq ?_)
  refine at_ifp (((u.toNat : Int) : Int) = (61 : Int)) (by kernel_rfl) (fun q23 => ?_) (fun q23 => ?_)
  refine at_seq (at_region ?_)
  refine ops_run1 (l' := [(2, .bool true)]) (by kernel_rfl) ?_
  refine ops_nil (nx_seq ?_)
  refine at_ret (rs := [.tmp 2]) (vs := [.bool true]) rfl (by kernel_rfl) ?_
  exact ⟨_, rfl, (congrArg Value.bool (decide_eq_true (p := letterP (u.toNat : Int) ∨ markP (u.toNat : Int)) (by unfold markP; first | exact .inl (by assumption) | (refine .inr ?_; omega) | (rintro (h | h) <;> first | contradiction | omega))).symm), ((Chg.refl [] w).step0 c1 (by omega))⟩
  refine at_skip (nx_blk (nx_seq (at_seq (at_region ?_))))
  refine ops_run1 (l' := [(2, .bool false)]) (by kernel_rfl) ?_
  refine ops_nil (nx_seq ?_)
  refine at_ret (rs := [.tmp 2]) (vs := [.bool false]) rfl (by kernel_rfl) ?_
  exact ⟨_, rfl, (congrArg Value.bool (decide_eq_false (p := letterP (u.toNat : Int) ∨ markP (u.toNat : Int)) (by unfold markP; first | exact .inl (by assumption) | (refine .inr ?_; omega) | (rintro (h | h) <;> first | contradiction | omega))).symm), ((Chg.refl [] w).step0 c1 (by omega))⟩
  refine at_seq (at_region ?_)
  refine ops_run2 (l' := [(2, .bool false), (5, .int .u8 ((u.toNat : Int))), (6, .bool (decide (((u.toNat : Int) : Int) = (63 : Int))))]) (by kernel_rfl) ?_
  refine ops_nil (nx_seq ?_)
  refine at_ifp (((u.toNat : Int) : Int) = (63 : Int)) (by kernel_rfl) (fun q24 => ?_) (fun q24 => ?_)
  refine at_skip (nx_seq ?_)
  refine at_ifp (((u.toNat : Int) : Int) = (63 : Int)) (by kernel_rfl) (fun q25 => ?_) (fun q25 => ?_)
  refine at_seq (at_region ?_)
  refine ops_run1 (l' := [(2, .bool true)]) (by kernel_rfl) ?_
  refine ops_nil (nx_seq ?_)
  refine at_ret (rs := [.tmp 2]) (vs := [.bool true]) rfl (by kernel_rfl) ?_
  exact ⟨_, rfl, (congrArg Value.bool (decide_eq_true (p := letterP (u.toNat : Int) ∨ markP (u.toNat : Int)) (by unfold markP; first | exact .inl (by assumption) | (refine .inr ?_; omega) | (rintro (h | h) <;> first | contradiction | omega))).symm), ((Chg.refl [] w).step0 c1 (by omega))⟩
  refine at_skip (nx_blk (nx_seq (at_seq (at_region ?_))))
  refine ops_run1 (l' := [(2, .bool false)]) (by kernel_rfl) ?_
  refine ops_nil (nx_seq ?_)
  refine at_ret (rs := [.tmp 2]) (vs := [.bool false]) rfl (by kernel_rfl) ?_
  exact ⟨_, rfl, (congrArg Value.bool (decide_eq_false (p := letterP (u.toNat : Int) ∨ markP (u.toNat : Int)) (by unfold markP; first | exact .inl (by assumption) | (refine .inr ?_; omega) | (rintro (h | h) <;> first | contradiction | omega))).symm), ((Chg.refl [] w).step0 c1 (by omega))⟩
  refine at_seq (at_region ?_)
  refine ops_run2 (l' := [(2, .bool false), (5, .int .u8 ((u.toNat : Int))), (6, .bool (decide (((u.toNat : Int) : Int) = (94 : Int))))]) (by kernel_rfl) ?_
  refine ops_nil (nx_seq ?_)
  refine at_ifp (((u.toNat : Int) : Int) = (94 : Int)) (by kernel_rfl) (fun q26 => ?_) (fun q26 => ?_)
  refine at_skip (nx_seq ?_)
  refine at_ifp (((u.toNat : Int) : Int) = (94 : Int)) (by kernel_rfl) (fun q27 => ?_) (fun q27 => ?_)
  refine at_seq (at_region ?_)
  refine ops_run1 (l' := [(2, .bool true)]) (by kernel_rfl) ?_
  refine ops_nil (nx_seq ?_)
  refine at_ret (rs := [.tmp 2]) (vs := [.bool true]) rfl (by kernel_rfl) ?_
  exact ⟨_, rfl, (congrArg Value.bool (decide_eq_true (p := letterP (u.toNat : Int) ∨ markP (u.toNat : Int)) (by unfold markP; first | exact .inl (by assumption) | (refine .inr ?_; omega) | (rintro (h | h) <;> first | contradiction | omega))).symm), ((Chg.refl [] w).step0 c1 (by omega))⟩
  refine at_skip (nx_blk (nx_seq (at_seq (at_region ?_))))
  refine ops_run1 (l' := [(2, .bool false)]) (by kernel_rfl) ?_
  refine ops_nil (nx_seq ?_)
  refine at_ret (rs := [.tmp 2]) (vs := [.bool false]) rfl (by kernel_rfl) ?_
  exact ⟨_, rfl, (congrArg Value.bool (decide_eq_false (p := letterP (u.toNat : Int) ∨ markP (u.toNat : Int)) (by unfold markP; first | exact .inl (by assumption) | (refine .inr ?_; omega) | (rintro (h | h) <;> first | contradiction | omega))).symm), ((Chg.refl [] w).step0 c1 (by omega))⟩
  refine at_seq (at_region ?_)
  refine ops_run2 (l' := [(2, .bool false), (5, .int .u8 ((u.toNat : Int))), (6, .bool (decide (((u.toNat : Int) : Int) = (95 : Int))))]) (by kernel_rfl) ?_
  refine ops_nil (nx_seq ?_)
  refine at_ifp (((u.toNat : Int) : Int) = (95 : Int)) (by kernel_rfl) (fun q28 => ?_) (fun q28 => ?_)
  refine at_skip (nx_seq ?_)
  refine at_ifp (((u.toNat : Int) : Int) = (95 : Int)) (by kernel_rfl) (fun q29 => ?_) (fun q29 => ?_)
  refine at_seq (at_region ?_)
  refine ops_run1 (l' := [(2, .bool true)]) (by kernel_rfl) ?_
  refine ops_nil (nx_seq ?_)
  refine at_ret (rs := [.tmp 2]) (vs := [.bool true]) rfl (by kernel_rfl) ?_
  exact ⟨_, rfl, (congrArg Value.bool (decide_eq_true (p := letterP (u.toNat : Int) ∨ markP (u.toNat : Int)) (by unfold markP; first | exact .inl (by assumption) | (refine .inr ?_; omega) | (rintro (h | h) <;> first | contradiction | omega))).symm), ((Chg.refl [] w).step0 c1 (by omega))⟩
  refine at_skip (nx_blk (nx_seq (at_seq (at_region ?_))))
  refine ops_run1 (l' := [(2, .bool false)]) (by kernel_rfl) ?_
  refine ops_nil (nx_seq ?_)
  refine at_ret (rs := [.tmp 2]) (vs := [.bool false]) rfl (by kernel_rfl) ?_
  exact ⟨_, rfl, (congrArg Value.bool (decide_eq_false (p := letterP (u.toNat : Int) ∨ markP (u.toNat : Int)) (by unfold markP; first | exact .inl (by assumption) | (refine .inr ?_; omega) | (rintro (h | h) <;> first | contradiction | omega))).symm), ((Chg.refl [] w).step0 c1 (by omega))⟩
  refine at_seq (at_region ?_)
  refine ops_run2 (l' := [(2, .bool false), (5, .int .u8 ((u.toNat : Int))), (6, .bool (decide (((u.toNat : Int) : Int) = (123 : Int))))]) (by kernel_rfl) ?_
  refine ops_nil (nx_seq ?_)
  refine at_ifp (((u.toNat : Int) : Int) = (123 : Int)) (by kernel_rfl) (fun q30 => ?_) (fun q30 => ?_)
  refine at_skip (nx_seq ?_)
  refine at_ifp (((u.toNat : Int) : Int) = (123 : Int)) (by kernel_rfl) (fun q31 => ?_) (fun q31 => ?_)
  refine at_seq (at_region ?_)
  refine ops_run1 (l' := [(2, .bool true)]) (by kernel_rfl) ?_
  refine ops_nil (nx_seq ?_)
  refine at_ret (rs := [.tmp 2]) (vs := [.bool true]) rfl (by kernel_rfl) ?_
  exact ⟨_, rfl, (congrArg Value.bool (decide_eq_true (p := letterP (u.toNat : Int) ∨ markP (u.toNat : Int)) (by unfold markP; first | exact .inl (by assumption) | (refine .inr ?_; omega) | (rintro (h | h) <;> first | contradiction | omega))).symm), ((Chg.refl [] w).step0 c1 (by omega))⟩
  refine at_skip (nx_blk (nx_seq (at_seq (at_region ?_))))
  refine ops_run1 (l' := [(2, .bool false)]) (by kernel_rfl) ?_
  refine ops_nil (nx_seq ?_)
  refine at_ret (rs := [.tmp 2]) (vs := [.bool false]) rfl (by kernel_rfl) ?_
  exact ⟨_, rfl, (congrArg Value.bool (decide_eq_false (p := letterP (u.toNat : Int) ∨ markP (u.toNat : Int)) (by unfold markP; first | exact .inl (by assumption) | (refine .inr ?_; omega) | (rintro (h | h) <;> first | contradiction | omega))).symm), ((Chg.refl [] w).step0 c1 (by omega))⟩
  refine at_seq (at_region ?_)
  refine ops_run2 (l' := [(2, .bool false), (5, .int .u8 ((u.toNat : Int))), (6, .bool (decide (((u.toNat : Int) : Int) = (124 : Int))))]) (by kernel_rfl) ?_
  refine ops_nil (nx_seq ?_)
  refine at_ifp (((u.toNat : Int) : Int) = (124 : Int)) (by kernel_rfl) (fun q32 => ?_) (fun q32 => ?_)
  refine at_skip (nx_seq ?_)
  refine at_ifp (((u.toNat : Int) : Int) = (124 : Int)) (by kernel_rfl) (fun q33 => ?_) (fun q33 => ?_)
  refine at_seq (at_region ?_)
  refine ops_run1 (l' := [(2, .bool true)]) (by kernel_rfl) ?_
  refine ops_nil (nx_seq ?_)
  refine at_ret (rs := [.tmp 2]) (vs := [.bool true]) rfl (by kernel_rfl) ?_
  exact ⟨_, rfl, (congrArg Value.bool (decide_eq_true (p := letterP (u.toNat : Int) ∨ markP (u.toNat : Int)) (by unfold markP; first | exact .inl (by assumption) | (refine .inr ?_; omega) | (rintro (h | h) <;> first | contradiction | omega))).symm), ((Chg.refl [] w).step0 c1 (by omega))⟩
  refine at_skip (nx_blk (nx_seq (at_seq (at_region ?_))))
  refine ops_run1 (l' := [(2, .bool false)]) (by kernel_rfl) ?_
  refine ops_nil (nx_seq ?_)
  refine at_ret (rs := [.tmp 2]) (vs := [.bool false]) rfl (by kernel_rfl) ?_
  exact ⟨_, rfl, (congrArg Value.bool (decide_eq_false (p := letterP (u.toNat : Int) ∨ markP (u.toNat : Int)) (by unfold markP; first | exact .inl (by assumption) | (refine .inr ?_; omega) | (rintro (h | h) <;> first | contradiction | omega))).symm), ((Chg.refl [] w).step0 c1 (by omega))⟩
  refine at_seq (at_region ?_)
  refine ops_run2 (l' := [(2, .bool false), (5, .int .u8 ((u.toNat : Int))), (6, .bool (decide (((u.toNat : Int) : Int) = (125 : Int))))]) (by kernel_rfl) ?_
  refine ops_nil (nx_seq ?_)
  refine at_ifp (((u.toNat : Int) : Int) = (125 : Int)) (by kernel_rfl) (fun q34 => ?_) (fun q34 => ?_)
  refine at_skip (nx_seq ?_)
  refine at_ifp (((u.toNat : Int) : Int) = (125 : Int)) (by kernel_rfl) (fun q35 => ?_) (fun q35 => ?_)
  refine at_seq (at_region ?_)
  refine ops_run1 (l' := [(2, .bool true)]) (by kernel_rfl) ?_
  refine ops_nil (nx_seq ?_)
  refine at_ret (rs := [.tmp 2]) (vs := [.bool true]) rfl (by kernel_rfl) ?_
  exact ⟨_, rfl, (congrArg Value.bool (decide_eq_true (p := letterP (u.toNat : Int) ∨ markP (u.toNat : Int)) (by unfold markP; first | exact .inl (by assumption) | (refine .inr ?_; omega) | (rintro (h | h) <;> first | contradiction | omega))).symm), ((Chg.refl [] w).step0 c1 (by omega))⟩
  refine at_skip (nx_blk (nx_seq (at_seq (at_region ?_))))
  refine ops_run1 (l' := [(2, .bool false)]) (by kernel_rfl) ?_
  refine ops_nil (nx_seq ?_)
  refine at_ret (rs := [.tmp 2]) (vs := [.bool false]) rfl (by kernel_rfl) ?_
  exact ⟨_, rfl, (congrArg Value.bool (decide_eq_false (p := letterP (u.toNat : Int) ∨ markP (u.toNat : Int)) (by unfold markP; first | exact .inl (by assumption) | (refine .inr ?_; omega) | (rintro (h | h) <;> first | contradiction | omega))).symm), ((Chg.refl [] w).step0 c1 (by omega))⟩
  refine at_seq (at_region ?_)
  refine ops_run2 (l' := [(2, .bool false), (5, .int .u8 ((u.toNat : Int))), (6, .bool (decide (((u.toNat : Int) : Int) = (126 : Int))))]) (by kernel_rfl) ?_
  refine ops_nil (nx_seq ?_)
  refine at_ifp (((u.toNat : Int) : Int) = (126 : Int)) (by kernel_rfl) (fun q36 => ?_) (fun q36 => ?_)
  refine at_skip (nx_seq ?_)
  refine at_ifp (((u.toNat : Int) : Int) = (126 : Int)) (by kernel_rfl) (fun q37 => ?_) (fun q37 => ?_)
  refine at_seq (at_region ?_)
  refine ops_run1 (l' := [(2, .bool true)]) (by kernel_rfl) ?_
  refine ops_nil (nx_seq ?_)
  refine at_ret (rs := [.tmp 2]) (vs := [.bool true]) rfl (by kernel_rfl) ?_
  exact ⟨_, rfl, (congrArg Value.bool (decide_eq_true (p := letterP (u.toNat : Int) ∨ markP (u.toNat : Int)) (by unfold markP; first | exact .inl (by assumption) | (refine .inr ?_; omega) | (rintro (h | h) <;> first | contradiction | omega))).symm), ((Chg.refl [] w).step0 c1 (by omega))⟩
  refine at_skip (nx_blk (nx_seq (at_seq (at_region ?_))))
  refine ops_run1 (l' := [(2, .bool false)]) (by kernel_rfl) ?_
  refine ops_nil (nx_seq ?_)
  refine at_ret (rs := [.tmp 2]) (vs := [.bool false]) rfl (by kernel_rfl) ?_
  exact ⟨_, rfl, (congrArg Value.bool (decide_eq_false (p := letterP (u.toNat : Int) ∨ markP (u.toNat : Int)) (by unfold markP; first | exact .inl (by assumption) | (refine .inr ?_; omega) | (rintro (h | h) <;> first | contradiction | omega))).symm), ((Chg.refl [] w).step0 c1 (by omega))⟩
  refine at_region ?_
  refine ops_run2 (l' := [(2, .bool false), (6, .bool (decide (((u.toNat : Int) : Int) = (96 : Int))))]) (by kernel_rfl) ?_
  refine ops_nil (nx_seq ?_)
  refine at_ifp (((u.toNat : Int) : Int) = (96 : Int)) (by kernel_rfl) (fun q38 => ?_) (fun q38 => ?_)
  refine at_seq (at_region ?_)
  refine ops_run1 (l' := [(2, .bool true)]) (by kernel_rfl) ?_
  refine ops_nil (nx_seq ?_)
  refine at_ret (rs := [.tmp 2]) (vs := [.bool true]) rfl (by kernel_rfl) ?_
  exact ⟨_, rfl, (congrArg Value.bool (decide_eq_true (p := letterP (u.toNat : Int) ∨ markP (u.toNat : Int)) (by unfold markP; first | exact .inl (by assumption) | (refine .inr ?_; omega) | (rintro (h | h) <;> first | contradiction | omega))).symm), ((Chg.refl [] w).step0 c1 (by omega))⟩
  refine at_skip (nx_blk (nx_seq (at_seq (at_region ?_))))
  refine ops_run1 (l' := [(2, .bool false)]) (by kernel_rfl) ?_
  refine ops_nil (nx_seq ?_)
  refine at_ret (rs := [.tmp 2]) (vs := [.bool false]) rfl (by kernel_rfl) ?_
  exact ⟨_, rfl, (congrArg Value.bool (decide_eq_false (p := letterP (u.toNat : Int) ∨ markP (u.toNat : Int)) (by unfold markP; first | exact .inl (by assumption) | (refine .inr ?_; omega) | (rintro (h | h) <;> first | contradiction | omega))).symm), ((Chg.refl [] w).step0 c1 (by omega))⟩
theorem label_ok (s : Bytes) (hs : s.length < 4611686018427387904) (w : World) : Pu Tryd.prog 148 #[S s] w (.bool (decide (labelP s))) := by
  refine enter (n := 41) (args := [S s]) Tryd.func148 rfl rfl (Nat.le_of_ble_eq_true (by kernel_rfl)) ?_
  refine at_seq (at_region ?_)
  refine ops_run1 (l' := [(0, S s), (2, .bool false)]) (by kernel_rfl) ?_
  refine ops_nil (nx_seq (at_seq (at_seq (at_region ?_))))
  refine ops_run1 (l' := [(0, S s), (2, .bool false), (4, S s)]) (by kernel_rfl) ?_
  refine ops_eqS (a := s) (b := []) (by kernel_rfl) (by kernel_rfl) (by kernel_rfl) (by kernel_rfl) ?_
  refine ops_run1 (l' := [(0, S s), (2, .bool false), (6, .bool (decide ((s : Bytes) = [])))]) (by kernel_rfl) ?_
  by_cases q1 : (s : Bytes) = []
  rw [show (decide ((s : Bytes) = [])) = true from decide_eq_true q1]
  have l1 : s.length = 0 := by rw [q1]; rfl
  refine ops_run17 (l' := [(0, S s), (2, .bool false), (23, .bool true)]) (by kernel_rfl) ?_
  refine ops_nil (nx_seq ?_)
  refine at_ift (by kernel_rfl) ?_
  refine at_seq (at_region ?_)
  refine ops_run1 (l' := [(0, S s), (2, .bool false)]) (by kernel_rfl) ?_
  refine ops_nil (nx_seq ?_)
  refine at_ret (rs := [.tmp 2]) (vs := [.bool false]) rfl (by kernel_rfl) ?_
  exact ⟨_, rfl, (congrArg Value.bool (decide_eq_false (p := labelP s) (by rintro ⟨h1, h2, h3, h4, h5⟩; first | contradiction | omega | (rcases h5 i (by omega) with h6 | h6 <;> first | contradiction | exact absurd ((kindI_2 _).2 h6) (by assumption)))).symm), (Chg.refl [] w)⟩
  rw [show (decide ((s : Bytes) = [])) = false from decide_eq_false q1]
  have l2 := List.length_pos_iff.2 q1
  refine ops_run5 (l' := [(0, S s), (2, .bool false), (11, .bool (decide (((s.length : Int) : Int) > (63 : Int))))]) (by kernel_rfl) ?_
  by_cases q2 : ((s.length : Int) : Int) > (63 : Int)
  rw [show (decide (((s.length : Int) : Int) > (63 : Int))) = true from decide_eq_true q2]
  refine ops_run12 (l' := [(0, S s), (2, .bool false), (23, .bool true)]) (by kernel_rfl) ?_
  refine ops_nil (nx_seq ?_)
  refine at_ift (by kernel_rfl) ?_
  refine at_seq (at_region ?_)
  refine ops_run1 (l' := [(0, S s), (2, .bool false)]) (by kernel_rfl) ?_
  refine ops_nil (nx_seq ?_)
  refine at_ret (rs := [.tmp 2]) (vs := [.bool false]) rfl (by kernel_rfl) ?_
  exact ⟨_, rfl, (congrArg Value.bool (decide_eq_false (p := labelP s) (by rintro ⟨h1, h2, h3, h4, h5⟩; first | contradiction | omega | (rcases h5 i (by omega) with h6 | h6 <;> first | contradiction | exact absurd ((kindI_2 _).2 h6) (by assumption)))).symm), (Chg.refl [] w)⟩
  rw [show (decide (((s.length : Int) : Int) > (63 : Int))) = false from decide_eq_false q2]
  refine ops_run1 (l' := [(0, S s), (2, .bool false), (11, .bool false), (12, S s)]) (by kernel_rfl) ?_
  refine ops_at (b := s) (i := 0) (kd := .i64) 0 (by kernel_rfl) (by kernel_rfl) (by kernel_rfl) (by kernel_rfl) (by kernel_rfl) (by omega) (by omega) ?_
  have r1 := bAt_range s 0
  refine ops_run3 (l' := [(0, S s), (2, .bool false), (16, .bool (decide ((bAt s 0 : Int) = (45 : Int))))]) (by kernel_rfl) ?_
  by_cases q3 : (bAt s 0 : Int) = (45 : Int)
  rw [show (decide ((bAt s 0 : Int) = (45 : Int))) = true from decide_eq_true q3]
  refine ops_run7 (l' := [(0, S s), (2, .bool false), (23, .bool true)]) (by kernel_rfl) ?_
  refine ops_nil (nx_seq ?_)
  refine at_ift (by kernel_rfl) ?_
  refine at_seq (at_region ?_)
  refine ops_run1 (l' := [(0, S s), (2, .bool false)]) (by kernel_rfl) ?_
  refine ops_nil (nx_seq ?_)
  refine at_ret (rs := [.tmp 2]) (vs := [.bool false]) rfl (by kernel_rfl) ?_
  exact ⟨_, rfl, (congrArg Value.bool (decide_eq_false (p := labelP s) (by rintro ⟨h1, h2, h3, h4, h5⟩; first | contradiction | omega | (rcases h5 i (by omega) with h6 | h6 <;> first | contradiction | exact absurd ((kindI_2 _).2 h6) (by assumption)))).symm), (Chg.refl [] w)⟩
  rw [show (decide ((bAt s 0 : Int) = (45 : Int))) = false from decide_eq_false q3]
  refine ops_run3 (l' := [(0, S s), (2, .bool false), (16, .bool false), (17, S s), (19, .int .i64 ((s.length : Int)))]) (by kernel_rfl) ?_
  refine ops_sub_ (a := (s.length : Int)) (b := 1) (kd := .i64) (by kernel_rfl) (by kernel_rfl) (by kernel_rfl) (by kernel_rfl) (show (-9223372036854775808 : Int) ≤ ((s.length : Int)) - 1 by omega) (show ((s.length : Int)) - 1 ≤ (9223372036854775807 : Int) by omega) ?_
  refine ops_at (b := s) (i := ((s.length : Int)) - 1) (kd := .i64) ((s.length) - 1) (by kernel_rfl) (by kernel_rfl) (by kernel_rfl) (by kernel_rfl) (by kernel_rfl) (by omega) (by omega) ?_
  have r2 := bAt_range s ((s.length) - 1)
  refine ops_run2 (l' := [(0, S s), (2, .bool false), (23, .bool (decide ((bAt s ((s.length) - 1) : Int) = (45 : Int))))]) (by kernel_rfl) ?_
  refine ops_nil (nx_seq ?_)
  refine at_ifp ((bAt s ((s.length) - 1) : Int) = (45 : Int)) (by kernel_rfl) (fun q4 => ?_) (fun q4 => ?_)
  refine at_seq (at_region ?_)
  refine ops_run1 (l' := [(0, S s), (2, .bool false)]) (by kernel_rfl) ?_
  refine ops_nil (nx_seq ?_)
  refine at_ret (rs := [.tmp 2]) (vs := [.bool false]) rfl (by kernel_rfl) ?_
  exact ⟨_, rfl, (congrArg Value.bool (decide_eq_false (p := labelP s) (by rintro ⟨h1, h2, h3, h4, h5⟩; first | contradiction | omega | (rcases h5 i (by omega) with h6 | h6 <;> first | contradiction | exact absurd ((kindI_2 _).2 h6) (by assumption)))).symm), (Chg.refl [] w)⟩
  refine at_skip (nx_seq (at_seq (at_seq (at_region ?_))))
  refine ops_run3 (l' := [(0, S s), (2, .bool false), (25, .int .i64 ((s.length : Int))), (26, .int .i64 0)]) (by kernel_rfl) ?_
  refine ops_nil (nx_seq (at_block ?_))
  refine at_loop (X := Nat) (fun x_ => [(0, S s), (2, .bool false), (25, .int .i64 ((s.length : Int))), (26, .int .i64 ((x_ : Int)))]) (fun x_ W1 => Chg [] (w.heap.size) w W1 ∧ (x_ ≤ s.length) ∧ (∀ j, j < x_ → letterP (bAt s j) ∨ bAt s j = 45)) (fun x_ => s.length - x_) 0 (proj_sub [0, 2, 25, 26] (by kernel_rfl)) ⟨(Chg.refl [] w), (show 0 ≤ s.length by first | omega | (simp only [List.length_append, List.length_cons, List.length_nil, List.length_take, List.length_drop, List.length_map]; omega)), (show ∀ j, j < 0 → letterP (bAt s j) ∨ bAt s j = 45 by intro j hj; omega)⟩ ?_
  rintro i w1 ⟨h1, h2, h3⟩
  replace h1 : Chg [] (w.heap.size) w w1 := h1
  replace h2 : (i ≤ s.length) := h2
  replace h3 : (∀ j, j < i → letterP (bAt s j) ∨ bAt s j = 45) := h3
  have z1 := h1.size
  have hall := h3
  refine at_seq (at_region ?_)
  refine ops_run1 (l' := [(0, S s), (2, .bool false), (25, .int .i64 ((s.length : Int))), (26, .int .i64 ((i : Int))), (27, .bool (decide (((i : Int) : Int) < ((s.length : Int) : Int))))]) (by kernel_rfl) ?_
  refine ops_nil (nx_seq (at_seq ?_))
  refine at_ifp (((i : Int) : Int) < ((s.length : Int) : Int)) (by kernel_rfl) (fun q5 => ?_) (fun q5 => ?_)
  refine at_skip (nx_seq (at_seq (at_block (at_seq (at_region ?_)))))
  refine ops_run2 (l' := [(0, S s), (2, .bool false), (3, .int .i64 ((i : Int))), (25, .int .i64 ((s.length : Int))), (26, .int .i64 ((i : Int)))]) (by kernel_rfl) ?_
  refine ops_nil (nx_seq (at_seq (at_region ?_)))
  refine ops_run2 (l' := [(0, S s), (2, .bool false), (3, .int .i64 ((i : Int))), (25, .int .i64 ((s.length : Int))), (26, .int .i64 ((i : Int))), (29, S s), (30, .int .i64 ((i : Int)))]) (by kernel_rfl) ?_
  refine ops_at (b := s) (i := (i : Int)) (kd := .i64) i (by kernel_rfl) (by kernel_rfl) (by kernel_rfl) (by kernel_rfl) (by kernel_rfl) (by omega) (by omega) ?_
  have r3 := bAt_range s i
  refine ops_callr (by kernel_rfl) (by kernel_rfl) (by kernel_rfl) (kind_ok (s.getD i 0) w1) ?_
  rintro _ w2 ⟨rfl, c1⟩
  have z2 := c1.size
  refine ops_run2 (l' := [(0, S s), (2, .bool false), (3, .int .i64 ((i : Int))), (25, .int .i64 ((s.length : Int))), (26, .int .i64 ((i : Int))), (34, .bool (!(decide ((kindI (bAt s i) : Int) = (2 : Int)))))]) (by kernel_rfl) ?_
  by_cases q6 : (kindI (bAt s i) : Int) = (2 : Int)
  rw [show (decide ((kindI (bAt s i) : Int) = (2 : Int))) = true from decide_eq_true q6]
  refine ops_run5 (l' := [(0, S s), (2, .bool false), (25, .int .i64 ((s.length : Int))), (26, .int .i64 ((i : Int))), (39, .bool false)]) (by kernel_rfl) ?_
  refine ops_nil (nx_seq ?_)
  refine at_iff (by kernel_rfl) ?_
  refine at_skip (nx_blk (nx_seq (at_region ?_)))
  refine ops_add (a := (i : Int)) (b := 1) (kd := .i64) (by kernel_rfl) (by kernel_rfl) (by kernel_rfl) (by kernel_rfl) (show (-9223372036854775808 : Int) ≤ ((i : Int)) + 1 by omega) (show ((i : Int)) + 1 ≤ (9223372036854775807 : Int) by omega) ?_
  refine ops_run1 (l' := [(0, S s), (2, .bool false), (25, .int .i64 ((s.length : Int))), (26, .int .i64 (((i : Int)) + 1))]) (by kernel_rfl) ?_
  refine ops_nil ?_
  refine nx_round ((i) + 1) (proj_sub [0, 2, 25, 26] (by kernel_rfl)) ⟨(((Chg.refl [] w).step0 h1 (by omega)).step0 c1 (by omega)), (show ((i) + 1) ≤ s.length by first | omega | (simp only [List.length_append, List.length_cons, List.length_nil, List.length_take, List.length_drop, List.length_map]; omega)), (show ∀ j, j < ((i) + 1) → letterP (bAt s j) ∨ bAt s j = 45 by exact fun j hj => if e : j = i then (by subst e; have := kindI_2 (bAt s j); by_cases h : letterP (bAt s j) <;> simp_all) else hall j (by omega))⟩ (show s.length - ((i) + 1) < s.length - i by omega)
  rw [show (decide ((kindI (bAt s i) : Int) = (2 : Int))) = false from decide_eq_false q6]
  refine ops_run2 (l' := [(0, S s), (2, .bool false), (25, .int .i64 ((s.length : Int))), (26, .int .i64 ((i : Int))), (34, .bool true), (35, S s), (36, .int .i64 ((i : Int)))]) (by kernel_rfl) ?_
  refine ops_at (b := s) (i := (i : Int)) (kd := .i64) i (by kernel_rfl) (by kernel_rfl) (by kernel_rfl) (by kernel_rfl) (by kernel_rfl) (by omega) (by omega) ?_
  have r4 := bAt_range s i
  refine ops_run2 (l' := [(0, S s), (2, .bool false), (25, .int .i64 ((s.length : Int))), (26, .int .i64 ((i : Int))), (39, .bool (!(decide ((bAt s i : Int) = (45 : Int)))))]) (by kernel_rfl) ?_
  refine ops_nil (nx_seq ?_)
  refine at_ifn ((bAt s i : Int) = (45 : Int)) (by kernel_rfl) (fun q7 => ?_) (fun q7 => ?_)
  refine at_seq (at_region ?_)
  refine ops_run1 (l' := [(0, S s), (2, .bool false), (25, .int .i64 ((s.length : Int))), (26, .int .i64 ((i : Int)))]) (by kernel_rfl) ?_
  refine ops_nil (nx_seq ?_)
  refine at_ret (rs := [.tmp 2]) (vs := [.bool false]) rfl (by kernel_rfl) ?_
  exact ⟨_, rfl, (congrArg Value.bool (decide_eq_false (p := labelP s) (by rintro ⟨h1, h2, h3, h4, h5⟩; first | contradiction | omega | (rcases h5 i (by omega) with h6 | h6 <;> first | contradiction | exact absurd ((kindI_2 _).2 h6) (by assumption)))).symm), (((Chg.refl [] w).step0 h1 (by omega)).step0 c1 (by omega))⟩
  refine at_skip (nx_blk (nx_seq (at_region ?_)))
  refine ops_add (a := (i : Int)) (b := 1) (kd := .i64) (by kernel_rfl) (by kernel_rfl) (by kernel_rfl) (by kernel_rfl) (show (-9223372036854775808 : Int) ≤ ((i : Int)) + 1 by omega) (show ((i : Int)) + 1 ≤ (9223372036854775807 : Int) by omega) ?_
  refine ops_run1 (l' := [(0, S s), (2, .bool false), (25, .int .i64 ((s.length : Int))), (26, .int .i64 (((i : Int)) + 1))]) (by kernel_rfl) ?_
  refine ops_nil ?_
  refine nx_round ((i) + 1) (proj_sub [0, 2, 25, 26] (by kernel_rfl)) ⟨(((Chg.refl [] w).step0 h1 (by omega)).step0 c1 (by omega)), (show ((i) + 1) ≤ s.length by first | omega | (simp only [List.length_append, List.length_cons, List.length_nil, List.length_take, List.length_drop, List.length_map]; omega)), (show ∀ j, j < ((i) + 1) → letterP (bAt s j) ∨ bAt s j = 45 by exact fun j hj => if e : j = i then (by subst e; have := kindI_2 (bAt s j); by_cases h : letterP (bAt s j) <;> simp_all) else hall j (by omega))⟩ (show s.length - ((i) + 1) < s.length - i by omega)
  refine at_exit (ex_seq (ex_inv (ex_here (nx_seq (at_seq (at_region ?_))))))
  refine ops_run1 (l' := [(2, .bool true)]) (by kernel_rfl) ?_
  refine ops_nil (nx_seq ?_)
  refine at_ret (rs := [.tmp 2]) (vs := [.bool true]) rfl (by kernel_rfl) ?_
  exact ⟨_, rfl, (congrArg Value.bool (decide_eq_true (p := labelP s) (by refine ⟨by assumption, by omega, by assumption, by assumption, fun j hj => ?_⟩; exact hall j (by omega))).symm), ((Chg.refl [] w).step0 h1 (by omega))⟩

end Go.Proofs.YtnjkdnbabogcjaaDoor
