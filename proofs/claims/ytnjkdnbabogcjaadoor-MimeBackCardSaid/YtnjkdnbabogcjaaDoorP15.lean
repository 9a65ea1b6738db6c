/- A walk, printed by a program of my own (wip/gen/walk.py) from a script of mine. -/
import Derived.Test.YtnjkdnbabogcjaaDoorProg
import Derived.Test.YtnjkdnbabogcjaaDoorL0
import Derived.Test.YtnjkdnbabogcjaaDoorQ8
import Derived.Test.YtnjkdnbabogcjaaDoorP14
set_option maxHeartbeats 4000000
set_option linter.unusedVariables false
set_option linter.unusedSimpArgs false
set_option maxRecDepth 100000
namespace Go.Proofs.YtnjkdnbabogcjaaDoor
open Go Go.RowKit Go.Kw

theorem repErr_ne (fr : Bytes) (to : List Bytes) (at_ : Int) : repErr fr to at_ = 2 ∨ repErr fr to at_ = 110 := by unfold repErr; split <;> simp
theorem mcheck_ok (fr : Bytes) (to : List Bytes) (at_ : Int) (b : Bytes) {w : World} {lo hi : Nat} {tv : Value} (ht : Ss w lo hi tv to) {lo2 hi2 : Nat} {bv : Value} (hb : Bs w lo2 hi2 bv b) (hfr : fr.length < 4611686018427387904) (hto : ∀ s, s ∈ to → s.length < 4611686018427387904) (ha0 : -9223372036854775808 ≤ at_) (ha1 : at_ ≤ 9223372036854775807) (hg : Gl w) : Rp Tryd.prog 60 #[.agg #[S fr, tv, .int .i64 at_], bv] w (fun _ w2 => repOK fr to at_ b ∧ Chg [] w.heap.size w w2) (fun ch w2 => ch = thrownE 130 (repErr fr to at_) ∧ ¬ repOK fr to at_ b ∧ Chg [] w.heap.size w w2) := by
  have hgs := hg.size
  have htl := ht.len_le
  have hhi := ht.hi_le
  have hhb := hb.hi_le
  refine enter (n := 46) (args := [.agg #[S fr, tv, .int .i64 at_], bv]) Tryd.func60 rfl rfl (Nat.le_of_ble_eq_true (by kernel_rfl)) ?_
  refine at_seq (at_region ?_)
  refine ops_box (cs := [S fr, tv, .int .i64 at_]) (by kernel_rfl) (by kernel_rfl) (by kernel_rfl) (fun b1 w1 e1 h1 c1 z1 => ?_)
  have z2 := c1.size
  refine ops_nil (nx_seq (at_seq (at_region ?_)))
  refine ops_run1 (l' := [(1, bv), (2, .pointer (some ⟨b1, 0, none⟩)), (6, .pointer (some ⟨b1, 0, none⟩))]) (by kernel_rfl) ?_
  refine ops_loadB (i := 0) (v := S fr) (by kernel_rfl) (by kernel_rfl) (by kernel_rfl) (by kernel_rfl) h1 (by kernel_rfl) ?_
  refine ops_eqS (a := fr) (b := []) (by kernel_rfl) (by kernel_rfl) (by kernel_rfl) (by kernel_rfl) ?_
  refine ops_run1 (l' := [(1, bv), (2, .pointer (some ⟨b1, 0, none⟩)), (9, .bool (decide ((fr : Bytes) = [])))]) (by kernel_rfl) ?_
  by_cases q1 : (fr : Bytes) = []
  rw [show (decide ((fr : Bytes) = [])) = true from decide_eq_true q1]
  have l1 : fr.length = 0 := by rw [q1]; rfl
  refine ops_run4 (l' := [(1, bv), (2, .pointer (some ⟨b1, 0, none⟩)), (13, .bool true)]) (by kernel_rfl) ?_
  refine ops_callp (by kernel_rfl) (by kernel_rfl) (by kernel_rfl) (mime_must true (110) w1) ?_ (fun ch w' a ha h => by cases h.1)
  rintro _ w2 ⟨_, rfl, hwq⟩
  rw [hwq]
  clear hwq w2
  refine ops_nil (nx_seq (at_seq (at_region ?_)))
  refine ops_run1 (l' := [(1, bv), (2, .pointer (some ⟨b1, 0, none⟩)), (15, .pointer (some ⟨b1, 1, none⟩))]) (by kernel_rfl) ?_
  refine ops_loadB (i := 1) (v := tv) (by kernel_rfl) (by kernel_rfl) (by kernel_rfl) (by kernel_rfl) h1 (by kernel_rfl) ?_
  have h2 := ht.keep0 c1 (by omega)
  refine ops_len (e := 9) (by kernel_rfl) (by kernel_rfl) (by kernel_rfl) (by kernel_rfl) h2 ?_
  refine ops_run2 (l' := [(1, bv), (2, .pointer (some ⟨b1, 0, none⟩)), (19, .bool (decide (((to.length : Int) : Int) > (0 : Int))))]) (by kernel_rfl) ?_
  by_cases q3 : ((to.length : Int) : Int) > (0 : Int)
  rw [show (decide (((to.length : Int) : Int) > (0 : Int))) = true from decide_eq_true q3]
  refine ops_run1 (l' := [(1, bv), (2, .pointer (some ⟨b1, 0, none⟩)), (19, .bool true), (20, .pointer (some ⟨b1, 2, none⟩))]) (by kernel_rfl) ?_
  refine ops_loadB (i := 2) (v := .int .i64 at_) (by kernel_rfl) (by kernel_rfl) (by kernel_rfl) (by kernel_rfl) h1 (by kernel_rfl) ?_
  refine ops_run2 (l' := [(1, bv), (2, .pointer (some ⟨b1, 0, none⟩)), (23, .bool (decide ((at_ : Int) ≥ (0 : Int))))]) (by kernel_rfl) ?_
  refine ops_callp (by kernel_rfl) (by kernel_rfl) (by kernel_rfl) (mime_must (decide ((at_ : Int) ≥ (0 : Int))) (110) w1) ?_ ?_
  rintro _ w3 ⟨q4, rfl, hwq⟩
  rw [hwq]
  clear hwq w3
  replace q4 := of_decide_eq_true q4
  refine ops_nil (nx_seq (at_seq (at_seq (at_region ?_))))
  refine ops_run1 (l' := [(1, bv), (2, .pointer (some ⟨b1, 0, none⟩)), (25, .pointer (some ⟨b1, 1, none⟩))]) (by kernel_rfl) ?_
  refine ops_loadB (i := 1) (v := tv) (by kernel_rfl) (by kernel_rfl) (by kernel_rfl) (by kernel_rfl) h1 (by kernel_rfl) ?_
  refine ops_len (e := 9) (by kernel_rfl) (by kernel_rfl) (by kernel_rfl) (by kernel_rfl) h2 ?_
  refine ops_run1 (l' := [(1, bv), (2, .pointer (some ⟨b1, 0, none⟩)), (26, tv), (27, .int .i64 ((to.length : Int))), (28, .int .i64 0)]) (by kernel_rfl) ?_
  refine ops_nil (nx_seq (at_block ?_))
  refine at_loop (X := Nat) (fun x_ => [(1, bv), (2, .pointer (some ⟨b1, 0, none⟩)), (26, tv), (27, .int .i64 ((to.length : Int))), (28, .int .i64 ((x_ : Int)))]) (fun x_ W1 => Chg [] (w1.heap.size) w1 W1 ∧ (x_ ≤ to.length) ∧ (∀ q, q < x_ → mailboxP (to.getD q []))) (fun x_ => to.length - x_) 0 (proj_sub [1, 2, 26, 27, 28] (by kernel_rfl)) ⟨(Chg.refl [] w1), (show 0 ≤ to.length by first | omega | (simp only [List.length_append, List.length_cons, List.length_nil, List.length_take, List.length_drop, List.length_map]; omega)), (show ∀ q, q < 0 → mailboxP (to.getD q []) by intro q hq; omega)⟩ ?_
  rintro k w4 ⟨h3, h4, h5⟩
  replace h3 : Chg [] (w1.heap.size) w1 w4 := h3
  replace h4 : (k ≤ to.length) := h4
  replace h5 : (∀ q, q < k → mailboxP (to.getD q [])) := h5
  have z3 := h3.size
  have hall := h5
  refine at_seq (at_region ?_)
  refine ops_run1 (l' := [(1, bv), (2, .pointer (some ⟨b1, 0, none⟩)), (26, tv), (27, .int .i64 ((to.length : Int))), (28, .int .i64 ((k : Int))), (29, .bool (decide (((k : Int) : Int) < ((to.length : Int) : Int))))]) (by kernel_rfl) ?_
  refine ops_nil (nx_seq (at_seq ?_))
  refine at_ifp (((k : Int) : Int) < ((to.length : Int) : Int)) (by kernel_rfl) (fun q5 => ?_) (fun q5 => ?_)
  refine at_skip (nx_seq (at_seq (at_block (at_seq (at_region ?_)))))
  have h6 := h2.keep0 h3 (by omega)
  refine ops_idx (e := 9) (i := (k : Int)) (kd := .i64) k (by kernel_rfl) (by kernel_rfl) (by kernel_rfl) (by kernel_rfl) (by kernel_rfl) (by kernel_rfl) h6 (by omega) (by first | omega | (simp only [List.length_append, List.length_cons, List.length_nil, List.length_take, List.length_drop, List.length_map]; omega)) (fun a1 h7 => ?_)
  have h8 := cell_sAt (l := to) (j := k) h7 (by omega)
  refine ops_load (by kernel_rfl) (by kernel_rfl) (by kernel_rfl) (by kernel_rfl) h8 ?_
  have hpl := hto (to.getD k []) (getD_mem (by omega))
  refine ops_run1 (l' := [(1, bv), (2, .pointer (some ⟨b1, 0, none⟩)), (5, S (to.getD k [])), (26, tv), (27, .int .i64 ((to.length : Int))), (28, .int .i64 ((k : Int)))]) (by kernel_rfl) ?_
  refine ops_nil (nx_seq (at_region ?_))
  refine ops_run1 (l' := [(1, bv), (2, .pointer (some ⟨b1, 0, none⟩)), (26, tv), (27, .int .i64 ((to.length : Int))), (28, .int .i64 ((k : Int))), (32, S (to.getD k []))]) (by kernel_rfl) ?_
  have h9 := hg.keep0 c1 (by omega)
  have h10 := h9.keep0 h3 (by omega)
  refine ops_callr (by kernel_rfl) (by kernel_rfl) (by kernel_rfl) (mailbox_ok (to.getD k []) (by first | omega | (simp only [List.length_append, List.length_cons, List.length_nil, List.length_take, List.length_drop, List.length_map]; omega)) w4 h10) ?_
  rintro _ w5 ⟨rfl, c2⟩
  have z4 := c2.size
  refine ops_callp (by kernel_rfl) (by kernel_rfl) (by kernel_rfl) (mime_must (decide (mailboxP (to.getD k []))) (110) w5) ?_ ?_
  rintro _ w6 ⟨q6, rfl, hwq⟩
  rw [hwq]
  clear hwq w6
  replace q6 := of_decide_eq_true q6
  refine ops_nil (nx_blk (nx_seq (at_region ?_)))
  refine ops_add (a := (k : Int)) (b := 1) (kd := .i64) (by kernel_rfl) (by kernel_rfl) (by kernel_rfl) (by kernel_rfl) (show (-9223372036854775808 : Int) ≤ ((k : Int)) + 1 by omega) (show ((k : Int)) + 1 ≤ (9223372036854775807 : Int) by omega) ?_
  refine ops_run1 (l' := [(1, bv), (2, .pointer (some ⟨b1, 0, none⟩)), (26, tv), (27, .int .i64 ((to.length : Int))), (28, .int .i64 (((k : Int)) + 1))]) (by kernel_rfl) ?_
  refine ops_nil ?_
  refine nx_round ((k) + 1) (proj_sub [1, 2, 26, 27, 28] (by kernel_rfl)) ⟨(((Chg.refl [] w1).step0 h3 (by omega)).step0 c2 (by omega)), (show ((k) + 1) ≤ to.length by first | omega | (simp only [List.length_append, List.length_cons, List.length_nil, List.length_take, List.length_drop, List.length_map]; omega)), (show ∀ q, q < ((k) + 1) → mailboxP (to.getD q []) by exact fun q hq => if e : q = k then (by rw [e]; assumption) else hall q (by omega))⟩ (show to.length - ((k) + 1) < to.length - k by omega)
  rintro ch w6 a ha ⟨q6, hch, hwq⟩
  rw [hwq]
  replace q6 := of_decide_eq_false q6
  refine out_panic ha (.inr ⟨_, rfl, hch.trans (congrArg (thrownE 130) ?_), ?_, ((((Chg.refl [] w).step0 c1 (by omega)).step0 h3 (by omega)).step0 c2 (by omega))⟩)
  · unfold repErr; rw [if_neg]; rintro ⟨g1, g2, g3, g4⟩; first | omega | (rcases g1 with g1 | g1 <;> contradiction) | (have := g4 (to.getD k []) (getD_mem (by omega)); contradiction)
  · intro hk; rcases hk with ⟨⟨g1, g2, g3, g4⟩, g5, g6⟩; first | omega | (rcases g1 with g1 | g1 <;> contradiction) | (have := g4 (to.getD k []) (getD_mem (by omega)); contradiction)
  refine at_exit (ex_seq (ex_inv (ex_here (nx_seq (at_region ?_)))))
  refine ops_run1 (l' := [(1, bv), (36, .pointer (some ⟨b1, 1, none⟩))]) (by kernel_rfl) ?_
  have h11 := h1.keep0 h3 (by omega)
  refine ops_loadB (i := 1) (v := tv) (by kernel_rfl) (by kernel_rfl) (by kernel_rfl) (by kernel_rfl) h11 (by kernel_rfl) ?_
  have h12 := h2.keep0 h3 (by omega)
  refine ops_len (e := 9) (by kernel_rfl) (by kernel_rfl) (by kernel_rfl) (by kernel_rfl) h12 ?_
  refine ops_run2 (l' := [(1, bv), (40, .bool (decide (((to.length : Int) : Int) ≤ (100 : Int))))]) (by kernel_rfl) ?_
  by_cases q7 : ((to.length : Int) : Int) ≤ (100 : Int)
  rw [show (decide (((to.length : Int) : Int) ≤ (100 : Int))) = true from decide_eq_true q7]
  refine ops_run1 (l' := [(40, .bool true), (41, bv)]) (by kernel_rfl) ?_
  have h13 := hb.keep0 c1 (by omega)
  have h14 := h13.keep0 h3 (by omega)
  refine ops_len (e := 5) (by kernel_rfl) (by kernel_rfl) (by kernel_rfl) (by kernel_rfl) h14 ?_
  refine ops_run2 (l' := [(44, .bool (decide (((b.length : Int) : Int) ≤ (1000000 : Int))))]) (by kernel_rfl) ?_
  refine ops_callp (by kernel_rfl) (by kernel_rfl) (by kernel_rfl) (mime_must (decide (((b.length : Int) : Int) ≤ (1000000 : Int))) (2) w4) ?_ ?_
  rintro _ w7 ⟨q8, rfl, hwq⟩
  rw [hwq]
  clear hwq w7
  replace q8 := of_decide_eq_true q8
  refine ops_nil ?_
  refine nx_ret (rs := []) (vs := []) rfl (by kernel_rfl) ?_
  exact .inl ⟨_, rfl, ⟨⟨by first | exact .inl (by assumption) | exact .inr (by assumption), by omega, by omega, all_of_getD (d := []) (fun q hq => hall q (by omega))⟩, by omega, by omega⟩, (((Chg.refl [] w).step0 c1 (by omega)).step0 h3 (by omega))⟩
  rintro ch w7 a ha ⟨q8, hch, hwq⟩
  rw [hwq]
  replace q8 := of_decide_eq_false q8
  refine out_panic ha (.inr ⟨_, rfl, hch.trans (congrArg (thrownE 130) ?_), ?_, (((Chg.refl [] w).step0 c1 (by omega)).step0 h3 (by omega))⟩)
  · unfold repErr; rw [if_pos ⟨by first | exact .inl (by assumption) | exact .inr (by assumption), by omega, by omega, all_of_getD (d := []) (fun q hq => hall q (by omega))⟩]
  · intro hk; rcases hk with ⟨⟨g1, g2, g3, g4⟩, g5, g6⟩; first | omega | (rcases g1 with g1 | g1 <;> contradiction) | (have := g4 (to.getD k []) (getD_mem (by omega)); contradiction)
  rw [show (decide (((to.length : Int) : Int) ≤ (100 : Int))) = false from decide_eq_false q7]
  refine ops_run4 (l' := [(44, .bool false)]) (by kernel_rfl) ?_
  refine ops_callp (by kernel_rfl) (by kernel_rfl) (by kernel_rfl) (mime_must (false) (2) w4) (fun v w' h => by cases h.1) ?_
  rintro ch w8 a ha ⟨q9, hch, hwq⟩
  rw [hwq]
  refine out_panic ha (.inr ⟨_, rfl, hch.trans (congrArg (thrownE 130) ?_), ?_, (((Chg.refl [] w).step0 c1 (by omega)).step0 h3 (by omega))⟩)
  · unfold repErr; rw [if_pos ⟨by first | exact .inl (by assumption) | exact .inr (by assumption), by omega, by omega, all_of_getD (d := []) (fun q hq => hall q (by omega))⟩]
  · intro hk; rcases hk with ⟨⟨g1, g2, g3, g4⟩, g5, g6⟩; first | omega | (rcases g1 with g1 | g1 <;> contradiction) | (have := g4 (to.getD k []) (getD_mem (by omega)); contradiction)
  rintro ch w3 a ha ⟨q4, hch, hwq⟩
  rw [hwq]
  replace q4 := of_decide_eq_false q4
  refine out_panic ha (.inr ⟨_, rfl, hch.trans (congrArg (thrownE 130) ?_), ?_, ((Chg.refl [] w).step0 c1 (by omega))⟩)
  · unfold repErr; rw [if_neg]; rintro ⟨g1, g2, g3, g4⟩; first | omega | (rcases g1 with g1 | g1 <;> contradiction) | (have := g4 (to.getD k []) (getD_mem (by omega)); contradiction)
  · intro hk; rcases hk with ⟨⟨g1, g2, g3, g4⟩, g5, g6⟩; first | omega | (rcases g1 with g1 | g1 <;> contradiction) | (have := g4 (to.getD k []) (getD_mem (by omega)); contradiction)
  rw [show (decide (((to.length : Int) : Int) > (0 : Int))) = false from decide_eq_false q3]
  refine ops_run4 (l' := [(1, bv), (2, .pointer (some ⟨b1, 0, none⟩)), (23, .bool false)]) (by kernel_rfl) ?_
  refine ops_callp (by kernel_rfl) (by kernel_rfl) (by kernel_rfl) (mime_must (false) (110) w1) (fun v w' h => by cases h.1) ?_
  rintro ch w9 a ha ⟨q10, hch, hwq⟩
  rw [hwq]
  refine out_panic ha (.inr ⟨_, rfl, hch.trans (congrArg (thrownE 130) ?_), ?_, ((Chg.refl [] w).step0 c1 (by omega))⟩)
  · unfold repErr; rw [if_neg]; rintro ⟨g1, g2, g3, g4⟩; first | omega | (rcases g1 with g1 | g1 <;> contradiction) | (have := g4 (to.getD k []) (getD_mem (by omega)); contradiction)
  · intro hk; rcases hk with ⟨⟨g1, g2, g3, g4⟩, g5, g6⟩; first | omega | (rcases g1 with g1 | g1 <;> contradiction) | (have := g4 (to.getD k []) (getD_mem (by omega)); contradiction)
  rw [show (decide ((fr : Bytes) = [])) = false from decide_eq_false q1]
  have l2 := List.length_pos_iff.2 q1
  refine ops_run1 (l' := [(1, bv), (2, .pointer (some ⟨b1, 0, none⟩)), (9, .bool false), (10, .pointer (some ⟨b1, 0, none⟩))]) (by kernel_rfl) ?_
  refine ops_loadB (i := 0) (v := S fr) (by kernel_rfl) (by kernel_rfl) (by kernel_rfl) (by kernel_rfl) h1 (by kernel_rfl) ?_
  have h15 := hg.keep0 c1 (by omega)
  refine ops_callr (by kernel_rfl) (by kernel_rfl) (by kernel_rfl) (mailbox_ok fr (by first | omega | (simp only [List.length_append, List.length_cons, List.length_nil, List.length_take, List.length_drop, List.length_map]; omega)) w1 h15) ?_
  rintro _ w10 ⟨rfl, c3⟩
  have z5 := c3.size
  refine ops_run1 (l' := [(1, bv), (2, .pointer (some ⟨b1, 0, none⟩)), (13, .bool (decide (mailboxP fr)))]) (by kernel_rfl) ?_
  refine ops_callp (by kernel_rfl) (by kernel_rfl) (by kernel_rfl) (mime_must (decide (mailboxP fr)) (110) w10) ?_ ?_
  rintro _ w11 ⟨q11, rfl, hwq⟩
  rw [hwq]
  clear hwq w11
  replace q11 := of_decide_eq_true q11
  refine ops_nil (nx_seq (at_seq (at_region ?_)))
  refine ops_run1 (l' := [(1, bv), (2, .pointer (some ⟨b1, 0, none⟩)), (15, .pointer (some ⟨b1, 1, none⟩))]) (by kernel_rfl) ?_
  have h16 := h1.keep0 c3 (by omega)
  refine ops_loadB (i := 1) (v := tv) (by kernel_rfl) (by kernel_rfl) (by kernel_rfl) (by kernel_rfl) h16 (by kernel_rfl) ?_
  have h17 := ht.keep0 c1 (by omega)
  have h18 := h17.keep0 c3 (by omega)
  refine ops_len (e := 9) (by kernel_rfl) (by kernel_rfl) (by kernel_rfl) (by kernel_rfl) h18 ?_
  refine ops_run2 (l' := [(1, bv), (2, .pointer (some ⟨b1, 0, none⟩)), (19, .bool (decide (((to.length : Int) : Int) > (0 : Int))))]) (by kernel_rfl) ?_
  by_cases q12 : ((to.length : Int) : Int) > (0 : Int)
  rw [show (decide (((to.length : Int) : Int) > (0 : Int))) = true from decide_eq_true q12]
  refine ops_run1 (l' := [(1, bv), (2, .pointer (some ⟨b1, 0, none⟩)), (19, .bool true), (20, .pointer (some ⟨b1, 2, none⟩))]) (by kernel_rfl) ?_
  refine ops_loadB (i := 2) (v := .int .i64 at_) (by kernel_rfl) (by kernel_rfl) (by kernel_rfl) (by kernel_rfl) h16 (by kernel_rfl) ?_
  refine ops_run2 (l' := [(1, bv), (2, .pointer (some ⟨b1, 0, none⟩)), (23, .bool (decide ((at_ : Int) ≥ (0 : Int))))]) (by kernel_rfl) ?_
  refine ops_callp (by kernel_rfl) (by kernel_rfl) (by kernel_rfl) (mime_must (decide ((at_ : Int) ≥ (0 : Int))) (110) w10) ?_ ?_
  rintro _ w12 ⟨q13, rfl, hwq⟩
  rw [hwq]
  clear hwq w12
  replace q13 := of_decide_eq_true q13
  refine ops_nil (nx_seq (at_seq (at_seq (at_region ?_))))
  refine ops_run1 (l' := [(1, bv), (2, .pointer (some ⟨b1, 0, none⟩)), (25, .pointer (some ⟨b1, 1, none⟩))]) (by kernel_rfl) ?_
  refine ops_loadB (i := 1) (v := tv) (by kernel_rfl) (by kernel_rfl) (by kernel_rfl) (by kernel_rfl) h16 (by kernel_rfl) ?_
  refine ops_len (e := 9) (by kernel_rfl) (by kernel_rfl) (by kernel_rfl) (by kernel_rfl) h18 ?_
  refine ops_run1 (l' := [(1, bv), (2, .pointer (some ⟨b1, 0, none⟩)), (26, tv), (27, .int .i64 ((to.length : Int))), (28, .int .i64 0)]) (by kernel_rfl) ?_
  refine ops_nil (nx_seq (at_block ?_))
  refine at_loop (X := Nat) (fun x_ => [(1, bv), (2, .pointer (some ⟨b1, 0, none⟩)), (26, tv), (27, .int .i64 ((to.length : Int))), (28, .int .i64 ((x_ : Int)))]) (fun x_ W2 => Chg [] (w10.heap.size) w10 W2 ∧ (x_ ≤ to.length) ∧ (∀ q, q < x_ → mailboxP (to.getD q []))) (fun x_ => to.length - x_) 0 (proj_sub [1, 2, 26, 27, 28] (by kernel_rfl)) ⟨(Chg.refl [] w10), (show 0 ≤ to.length by first | omega | (simp only [List.length_append, List.length_cons, List.length_nil, List.length_take, List.length_drop, List.length_map]; omega)), (show ∀ q, q < 0 → mailboxP (to.getD q []) by intro q hq; omega)⟩ ?_
  rintro k w13 ⟨h19, h20, h21⟩
  replace h19 : Chg [] (w10.heap.size) w10 w13 := h19
  replace h20 : (k ≤ to.length) := h20
  replace h21 : (∀ q, q < k → mailboxP (to.getD q [])) := h21
  have z6 := h19.size
  have hall := h21
  refine at_seq (at_region ?_)
  refine ops_run1 (l' := [(1, bv), (2, .pointer (some ⟨b1, 0, none⟩)), (26, tv), (27, .int .i64 ((to.length : Int))), (28, .int .i64 ((k : Int))), (29, .bool (decide (((k : Int) : Int) < ((to.length : Int) : Int))))]) (by kernel_rfl) ?_
  refine ops_nil (nx_seq (at_seq ?_))
  refine at_ifp (((k : Int) : Int) < ((to.length : Int) : Int)) (by kernel_rfl) (fun q14 => ?_) (fun q14 => ?_)
  refine at_skip (nx_seq (at_seq (at_block (at_seq (at_region ?_)))))
  have h22 := h18.keep0 h19 (by omega)
  refine ops_idx (e := 9) (i := (k : Int)) (kd := .i64) k (by kernel_rfl) (by kernel_rfl) (by kernel_rfl) (by kernel_rfl) (by kernel_rfl) (by kernel_rfl) h22 (by omega) (by first | omega | (simp only [List.length_append, List.length_cons, List.length_nil, List.length_take, List.length_drop, List.length_map]; omega)) (fun a2 h23 => ?_)
  have h24 := cell_sAt (l := to) (j := k) h23 (by omega)
  refine ops_load (by kernel_rfl) (by kernel_rfl) (by kernel_rfl) (by kernel_rfl) h24 ?_
  have hpl := hto (to.getD k []) (getD_mem (by omega))
  refine ops_run1 (l' := [(1, bv), (2, .pointer (some ⟨b1, 0, none⟩)), (5, S (to.getD k [])), (26, tv), (27, .int .i64 ((to.length : Int))), (28, .int .i64 ((k : Int)))]) (by kernel_rfl) ?_
  refine ops_nil (nx_seq (at_region ?_))
  refine ops_run1 (l' := [(1, bv), (2, .pointer (some ⟨b1, 0, none⟩)), (26, tv), (27, .int .i64 ((to.length : Int))), (28, .int .i64 ((k : Int))), (32, S (to.getD k []))]) (by kernel_rfl) ?_
  have h25 := h15.keep0 c3 (by omega)
  have h26 := h25.keep0 h19 (by omega)
  refine ops_callr (by kernel_rfl) (by kernel_rfl) (by kernel_rfl) (mailbox_ok (to.getD k []) (by first | omega | (simp only [List.length_append, List.length_cons, List.length_nil, List.length_take, List.length_drop, List.length_map]; omega)) w13 h26) ?_
  rintro _ w14 ⟨rfl, c4⟩
  have z7 := c4.size
  refine ops_callp (by kernel_rfl) (by kernel_rfl) (by kernel_rfl) (mime_must (decide (mailboxP (to.getD k []))) (110) w14) ?_ ?_
  rintro _ w15 ⟨q15, rfl, hwq⟩
  rw [hwq]
  clear hwq w15
  replace q15 := of_decide_eq_true q15
  refine ops_nil (nx_blk (nx_seq (at_region ?_)))
  refine ops_add (a := (k : Int)) (b := 1) (kd := .i64) (by kernel_rfl) (by kernel_rfl) (by kernel_rfl) (by kernel_rfl) (show (-9223372036854775808 : Int) ≤ ((k : Int)) + 1 by omega) (show ((k : Int)) + 1 ≤ (9223372036854775807 : Int) by omega) ?_
  refine ops_run1 (l' := [(1, bv), (2, .pointer (some ⟨b1, 0, none⟩)), (26, tv), (27, .int .i64 ((to.length : Int))), (28, .int .i64 (((k : Int)) + 1))]) (by kernel_rfl) ?_
  refine ops_nil ?_
  refine nx_round ((k) + 1) (proj_sub [1, 2, 26, 27, 28] (by kernel_rfl)) ⟨(((Chg.refl [] w10).step0 h19 (by omega)).step0 c4 (by omega)), (show ((k) + 1) ≤ to.length by first | omega | (simp only [List.length_append, List.length_cons, List.length_nil, List.length_take, List.length_drop, List.length_map]; omega)), (show ∀ q, q < ((k) + 1) → mailboxP (to.getD q []) by exact fun q hq => if e : q = k then (by rw [e]; assumption) else hall q (by omega))⟩ (show to.length - ((k) + 1) < to.length - k by omega)
  rintro ch w15 a ha ⟨q15, hch, hwq⟩
  rw [hwq]
  replace q15 := of_decide_eq_false q15
  refine out_panic ha (.inr ⟨_, rfl, hch.trans (congrArg (thrownE 130) ?_), ?_, (((((Chg.refl [] w).step0 c1 (by omega)).step0 c3 (by omega)).step0 h19 (by omega)).step0 c4 (by omega))⟩)
  · unfold repErr; rw [if_neg]; rintro ⟨g1, g2, g3, g4⟩; first | omega | (rcases g1 with g1 | g1 <;> contradiction) | (have := g4 (to.getD k []) (getD_mem (by omega)); contradiction)
  · intro hk; rcases hk with ⟨⟨g1, g2, g3, g4⟩, g5, g6⟩; first | omega | (rcases g1 with g1 | g1 <;> contradiction) | (have := g4 (to.getD k []) (getD_mem (by omega)); contradiction)
  refine at_exit (ex_seq (ex_inv (ex_here (nx_seq (at_region ?_)))))
  refine ops_run1 (l' := [(1, bv), (36, .pointer (some ⟨b1, 1, none⟩))]) (by kernel_rfl) ?_
  have h27 := h16.keep0 h19 (by omega)
  refine ops_loadB (i := 1) (v := tv) (by kernel_rfl) (by kernel_rfl) (by kernel_rfl) (by kernel_rfl) h27 (by kernel_rfl) ?_
  have h28 := h18.keep0 h19 (by omega)
  refine ops_len (e := 9) (by kernel_rfl) (by kernel_rfl) (by kernel_rfl) (by kernel_rfl) h28 ?_
  refine ops_run2 (l' := [(1, bv), (40, .bool (decide (((to.length : Int) : Int) ≤ (100 : Int))))]) (by kernel_rfl) ?_
  by_cases q16 : ((to.length : Int) : Int) ≤ (100 : Int)
  rw [show (decide (((to.length : Int) : Int) ≤ (100 : Int))) = true from decide_eq_true q16]
  refine ops_run1 (l' := [(40, .bool true), (41, bv)]) (by kernel_rfl) ?_
  have h29 := hb.keep0 c1 (by omega)
  have h30 := h29.keep0 c3 (by omega)
  have h31 := h30.keep0 h19 (by omega)
  refine ops_len (e := 5) (by kernel_rfl) (by kernel_rfl) (by kernel_rfl) (by kernel_rfl) h31 ?_
  refine ops_run2 (l' := [(44, .bool (decide (((b.length : Int) : Int) ≤ (1000000 : Int))))]) (by kernel_rfl) ?_
  refine ops_callp (by kernel_rfl) (by kernel_rfl) (by kernel_rfl) (mime_must (decide (((b.length : Int) : Int) ≤ (1000000 : Int))) (2) w13) ?_ ?_
  rintro _ w16 ⟨q17, rfl, hwq⟩
  rw [hwq]
  clear hwq w16
  replace q17 := of_decide_eq_true q17
  refine ops_nil ?_
  refine nx_ret (rs := []) (vs := []) rfl (by kernel_rfl) ?_
  exact .inl ⟨_, rfl, ⟨⟨by first | exact .inl (by assumption) | exact .inr (by assumption), by omega, by omega, all_of_getD (d := []) (fun q hq => hall q (by omega))⟩, by omega, by omega⟩, ((((Chg.refl [] w).step0 c1 (by omega)).step0 c3 (by omega)).step0 h19 (by omega))⟩
  rintro ch w16 a ha ⟨q17, hch, hwq⟩
  rw [hwq]
  replace q17 := of_decide_eq_false q17
  refine out_panic ha (.inr ⟨_, rfl, hch.trans (congrArg (thrownE 130) ?_), ?_, ((((Chg.refl [] w).step0 c1 (by omega)).step0 c3 (by omega)).step0 h19 (by omega))⟩)
  · unfold repErr; rw [if_pos ⟨by first | exact .inl (by assumption) | exact .inr (by assumption), by omega, by omega, all_of_getD (d := []) (fun q hq => hall q (by omega))⟩]
  · intro hk; rcases hk with ⟨⟨g1, g2, g3, g4⟩, g5, g6⟩; first | omega | (rcases g1 with g1 | g1 <;> contradiction) | (have := g4 (to.getD k []) (getD_mem (by omega)); contradiction)
  rw [show (decide (((to.length : Int) : Int) ≤ (100 : Int))) = false from decide_eq_false q16]
  refine ops_run4 (l' := [(44, .bool false)]) (by kernel_rfl) ?_
  refine ops_callp (by kernel_rfl) (by kernel_rfl) (by kernel_rfl) (mime_must (false) (2) w13) (fun v w' h => by cases h.1) ?_
  rintro ch w17 a ha ⟨q18, hch, hwq⟩
  rw [hwq]
  refine out_panic ha (.inr ⟨_, rfl, hch.trans (congrArg (thrownE 130) ?_), ?_, ((((Chg.refl [] w).step0 c1 (by omega)).step0 c3 (by omega)).step0 h19 (by omega))⟩)
  · unfold repErr; rw [if_pos ⟨by first | exact .inl (by assumption) | exact .inr (by assumption), by omega, by omega, all_of_getD (d := []) (fun q hq => hall q (by omega))⟩]
  · intro hk; rcases hk with ⟨⟨g1, g2, g3, g4⟩, g5, g6⟩; first | omega | (rcases g1 with g1 | g1 <;> contradiction) | (have := g4 (to.getD k []) (getD_mem (by omega)); contradiction)
  rintro ch w12 a ha ⟨q13, hch, hwq⟩
  rw [hwq]
  replace q13 := of_decide_eq_false q13
  refine out_panic ha (.inr ⟨_, rfl, hch.trans (congrArg (thrownE 130) ?_), ?_, (((Chg.refl [] w).step0 c1 (by omega)).step0 c3 (by omega))⟩)
  · unfold repErr; rw [if_neg]; rintro ⟨g1, g2, g3, g4⟩; first | omega | (rcases g1 with g1 | g1 <;> contradiction) | (have := g4 (to.getD k []) (getD_mem (by omega)); contradiction)
  · intro hk; rcases hk with ⟨⟨g1, g2, g3, g4⟩, g5, g6⟩; first | omega | (rcases g1 with g1 | g1 <;> contradiction) | (have := g4 (to.getD k []) (getD_mem (by omega)); contradiction)
  rw [show (decide (((to.length : Int) : Int) > (0 : Int))) = false from decide_eq_false q12]
  refine ops_run4 (l' := [(1, bv), (2, .pointer (some ⟨b1, 0, none⟩)), (23, .bool false)]) (by kernel_rfl) ?_
  refine ops_callp (by kernel_rfl) (by kernel_rfl) (by kernel_rfl) (mime_must (false) (110) w10) (fun v w' h => by cases h.1) ?_
  rintro ch w18 a ha ⟨q19, hch, hwq⟩
  rw [hwq]
  refine out_panic ha (.inr ⟨_, rfl, hch.trans (congrArg (thrownE 130) ?_), ?_, (((Chg.refl [] w).step0 c1 (by omega)).step0 c3 (by omega))⟩)
  · unfold repErr; rw [if_neg]; rintro ⟨g1, g2, g3, g4⟩; first | omega | (rcases g1 with g1 | g1 <;> contradiction) | (have := g4 (to.getD k []) (getD_mem (by omega)); contradiction)
  · intro hk; rcases hk with ⟨⟨g1, g2, g3, g4⟩, g5, g6⟩; first | omega | (rcases g1 with g1 | g1 <;> contradiction) | (have := g4 (to.getD k []) (getD_mem (by omega)); contradiction)
  rintro ch w11 a ha ⟨q11, hch, hwq⟩
  rw [hwq]
  replace q11 := of_decide_eq_false q11
  refine out_panic ha (.inr ⟨_, rfl, hch.trans (congrArg (thrownE 130) ?_), ?_, (((Chg.refl [] w).step0 c1 (by omega)).step0 c3 (by omega))⟩)
  · unfold repErr; rw [if_neg]; rintro ⟨g1, g2, g3, g4⟩; first | omega | (rcases g1 with g1 | g1 <;> contradiction) | (have := g4 (to.getD k []) (getD_mem (by omega)); contradiction)
  · intro hk; rcases hk with ⟨⟨g1, g2, g3, g4⟩, g5, g6⟩; first | omega | (rcases g1 with g1 | g1 <;> contradiction) | (have := g4 (to.getD k []) (getD_mem (by omega)); contradiction)
theorem report1_ok (fr : Bytes) (to : List Bytes) (at_ : Int) (b : Bytes) {w : World} {lo hi : Nat} {tv : Value} (ht : Ss w lo hi tv to) {lo2 hi2 : Nat} {bv : Value} (hb : Bs w lo2 hi2 bv b) (hfr : fr.length < 4611686018427387904) (hto : ∀ s, s ∈ to → s.length < 4611686018427387904) (ha0 : -9223372036854775808 ≤ at_) (ha1 : at_ ≤ 9223372036854775807) (hg : Gl w) {b1 b2 b3 : Nat} {u0 : Value} (hb1 : Blk w b1 [S fr, tv, .int .i64 at_] 26) (hb2 : Blk w b2 [bv] 22) (hb3 : Blk w b3 [u0] 22) (hne : b1 ≠ b3) (hne2 : b2 ≠ b3) (hhi3 : hi ≤ b3) (hhi4 : hi2 ≤ b3) :
    Rp Tryd.prog 59 [.pointer (some ⟨b1, 0, none⟩), .pointer (some ⟨b2, 0, none⟩), .pointer (some ⟨b3, 0, none⟩)].toArray w (fun _ w2 => (repOK fr to at_ b ∧ ∃ k v, IsBnd b k ∧ Blk w2 b3 [v] 22 ∧ Bs w2 w.heap.size w2.heap.size v (repB fr to at_ b (jn k))) ∧ Chg [b3] w.heap.size w w2) (fun ch w2 => ch = thrownE 130 (repErr fr to at_) ∧ (¬ repOK fr to at_ b ∧ Blk w2 b3 [u0] 22) ∧ Chg [b3] w.heap.size w w2) := by
  have hgs := hg.size
  have hhi := ht.hi_le
  have hhb := hb.hi_le
  have hl1 := hb1.lt
  have hl2 := hb2.lt
  have hl3 := hb3.lt
  refine enter (n := 22) (args := [.pointer (some ⟨b1, 0, none⟩), .pointer (some ⟨b2, 0, none⟩), .pointer (some ⟨b3, 0, none⟩)]) Tryd.func59 rfl rfl (Nat.le_of_ble_eq_true (by kernel_rfl)) ?_
  refine at_seq (at_region ?_)
  refine ops_loadS (i := 0) (vs := [S fr, tv, .int .i64 at_]) 3 (by kernel_rfl) (by kernel_rfl) (by kernel_rfl) (by kernel_rfl) (by kernel_rfl) hb1 (by kernel_rfl) (by kernel_rfl) ?_
  refine ops_loadB (i := 0) (v := bv) (by kernel_rfl) (by kernel_rfl) (by kernel_rfl) (by kernel_rfl) hb2 (by kernel_rfl) ?_
  refine ops_callp (by kernel_rfl) (by kernel_rfl) (by kernel_rfl) (mcheck_ok fr to at_ b ht hb hfr hto ha0 ha1 hg) ?_ ?_
  rintro _ w1 ⟨hrep, c1⟩
  have z1 := c1.size
  have htl : to.length ≤ 110 := by have := hrep.2.1; omega
  have hbl : b.length ≤ 1000000 := hrep.2.2
  have hfr2 : fr.length ≤ 1000000 := by rcases hrep.1.1 with e | e <;> first | (rw [e]; simp; done) | (have := mailbox_len e; omega)
  have hto2 : ∀ s, s ∈ to → s.length ≤ 1000000 := fun s hs => by have := mailbox_len (hrep.1.2.2.2 s hs); omega
  refine ops_nil (nx_seq (at_seq (at_region ?_)))
  have h2 := hb2.keep0 c1 (by omega)
  refine ops_loadB (i := 0) (v := bv) (by kernel_rfl) (by kernel_rfl) (by kernel_rfl) (by kernel_rfl) h2 (by kernel_rfl) ?_
  have h3 := hb.keep0 c1 (by omega)
  have h4 := hg.keep0 c1 (by omega)
  refine ops_callr (by kernel_rfl) (by kernel_rfl) (by kernel_rfl) (boundary_ok h3 (by first | omega | (simp only [List.length_append, List.length_cons, List.length_nil, List.length_take, List.length_drop, List.length_map]; omega)) h4) ?_
  rintro _ w2 ⟨k1, rfl, hk1, hk2, c2⟩
  have jl1 := jn_len k1 (by omega)
  have z2 := c2.size
  refine ops_run1 (l' := [(0, .pointer (some ⟨b1, 0, none⟩)), (1, .pointer (some ⟨b2, 0, none⟩)), (2, .pointer (some ⟨b3, 0, none⟩)), (3, S (jn k1))]) (by kernel_rfl) ?_
  refine ops_nil (nx_seq (at_seq ?_))
  have h5 := hb1.keep0 c1 (by omega)
  have h6 := h5.keep0 c2 (by omega)
  have h7 := h2.keep0 c2 (by omega)
  refine at_draw (m := 7) (listed := (bm 7 0)) (fun W => Blk W b1 [S fr, tv, .int .i64 at_] 26 ∧ Blk W b2 [bv] 22 ∧ True) (by kernel_rfl) (by kernel_rfl) (by kernel_rfl) (fun w3 c3 z3 _ _ => ?_)
  have z4 := c3.size
  have h8 := h6.keep0 c3 (by omega)
  have h9 := h7.keep0 c3 (by omega)
  refine ⟨⟨h8, h9, trivial⟩, ?_⟩
  refine any_loadS (i := 0) (j := 0) (listed' := (bm 7 1)) (vs := [S fr, tv, .int .i64 at_]) 3 panK_FB (by kernel_rfl) rfl (by kernel_rfl) (by kernel_rfl) (by kernel_rfl) (by kernel_rfl) (by kernel_rfl) (by kernel_rfl) (by kernel_rfl) (fun W hW => hW.1) (by kernel_rfl) (by kernel_rfl) ?_
  refine any_takes [1] (fuel' := 5) (listed' := (bm 7 3)) (l' := [(1, .pointer (some ⟨b2, 0, none⟩)), (2, .pointer (some ⟨b3, 0, none⟩)), (3, S (jn k1)), (9, .agg #[S fr, tv, .int .i64 at_]), (10, S (jn k1))]) panK_FB (by kernel_rfl) (by kernel_rfl) (by kernel_rfl) ?_
  refine any_load (i := 4) (j := 0) (listed' := (bm 7 19)) (v := bv) panK_FB (by kernel_rfl) rfl (by kernel_rfl) (by kernel_rfl) (by kernel_rfl) (by kernel_rfl) (by kernel_rfl) (by kernel_rfl) (fun W hW => hW.2.1) (by kernel_rfl) ?_
  refine any_1 2 (bm 7 23) (by kernel_rfl) rfl (by kernel_rfl) ?_
  have h10 := ht.keep0 c1 (by omega)
  have h11 := h10.keep0 c2 (by omega)
  have h12 := h11.keep0 c3 (by omega)
  have h13 := h4.keep0 c2 (by omega)
  have h14 := h13.keep0 c3 (by omega)
  refine ops_callr (by kernel_rfl) (by kernel_rfl) (by kernel_rfl) (ahead_ok fr to (at_) (jn k1) h12 hfr2 hto2 (by omega) ha0 ha1 (by first | omega | (simp only [List.length_append, List.length_cons, List.length_nil, List.length_take, List.length_drop, List.length_map]; omega)) h14) ?_
  rintro _ w4 ⟨rfl, c4⟩
  have z5 := c4.size
  have ab1 := ahead_bound (fr := fr) (to := to) (at_ := at_) (n := jn k1) hfr2 hto2 (by first | omega | (simp only [List.length_append, List.length_cons, List.length_nil, List.length_take, List.length_drop, List.length_map]; omega)) (by omega) ha0 ha1
  refine ops_nil ?_
  have h15 := h8.keep0 c4 (by omega)
  have h16 := h9.keep0 c4 (by omega)
  refine nx_any ⟨h15, h16, trivial⟩ ?_
  refine any_1 3 (bm 7 31) (by kernel_rfl) rfl (by kernel_rfl) ?_
  refine ops_toB (b := linesP (aheadL fr to (at_) (jn k1))) (by kernel_rfl) (by kernel_rfl) (by kernel_rfl) (by kernel_rfl) (by kernel_rfl) (by first | omega | (simp only [List.length_append, List.length_cons, List.length_nil, List.length_take, List.length_drop, List.length_map]; omega)) (fun v1 w5 h17 c5 z6 => ?_)
  have z7 := c5.size
  refine ops_nil ?_
  have h18 := h15.keep0 c5 (by omega)
  have h19 := h16.keep0 c5 (by omega)
  refine nx_any ⟨h18, h19, trivial⟩ ?_
  refine any_1 5 (bm 7 63) (by kernel_rfl) rfl (by kernel_rfl) ?_
  have h21 := h3.keep0 c2 (by omega)
  have h22 := h21.keep0 c3 (by omega)
  have h23 := h22.keep0 c4 (by omega)
  have h24 := h23.keep0 c5 (by omega)
  refine ops_appendB (e := 5) (by_ := 1) (l1 := (linesP (aheadL fr to (at_) (jn k1)))) (l2 := b) (by kernel_rfl) (by kernel_rfl) (by kernel_rfl) (by kernel_rfl) (by kernel_rfl) (by kernel_rfl) (by kernel_rfl) h17 h24 (by first | omega | (simp only [List.length_append, List.length_cons, List.length_nil, List.length_take, List.length_drop, List.length_map]; omega)) (fun v2 w6 h20 c6 c7 => ?_)
  have z8 := c6.size
  refine ops_nil ?_
  have h25 := h18.keep0 c6 (by omega)
  have h26 := h19.keep0 c6 (by omega)
  refine nx_any ⟨h25, h26, trivial⟩ ?_
  refine any_1 6 (bm 7 127) (by kernel_rfl) rfl (by kernel_rfl) ?_
  have h27 := hb3.keep0 c1 (by omega)
  have h28 := h27.keep0 c2 (by omega)
  have h29 := h28.keep0 c3 (by omega)
  have h30 := h29.keep0 c4 (by omega)
  have h31 := h30.keep0 c5 (by omega)
  have h32 := h31.keep0 c6 (by omega)
  refine ops_store (i := 0) (v := v2) [v2] (by kernel_rfl) (by kernel_rfl) (by kernel_rfl) (by kernel_rfl) h20.sl.one (by kernel_rfl) h32 (by kernel_rfl) (by kernel_rfl) (fun w7 h33 c8 z9 => ?_)
  have z10 := c8.size
  refine ops_nil ?_
  have h34 := h25.keep1 c8 (by omega) (by omega)
  have h35 := h26.keep1 c8 (by omega) (by omega)
  refine nx_any ⟨h34, h35, trivial⟩ ?_
  refine any_done (by kernel_rfl) ?_
  refine nx_seq ?_
  refine at_draw (m := 8) (listed := (bm 8 0)) (fun W => Blk W b1 [S fr, tv, .int .i64 at_] 26 ∧ Blk W b2 [bv] 22 ∧ True) (by kernel_rfl) (by kernel_rfl) (by kernel_rfl) (fun w8 c9 z11 _ _ => ?_)
  have z12 := c9.size
  have h36 := h34.keep0 c9 (by omega)
  have h37 := h35.keep0 c9 (by omega)
  refine ⟨⟨h36, h37, trivial⟩, ?_⟩
  refine any_takes [1] (fuel' := 7) (listed' := (bm 8 2)) (l' := [(2, .pointer (some ⟨b3, 0, none⟩)), (16, S (jn k1))]) panK_FB (by kernel_rfl) (by kernel_rfl) (by kernel_rfl) ?_
  refine any_cat (q_ := 2) (listed' := (bm 8 6)) (a := [45, 45]) (b := jn k1) panK_FB (by kernel_rfl) rfl (by kernel_rfl) (by kernel_rfl) (by kernel_rfl) (by kernel_rfl) (by kernel_rfl) (by kernel_rfl) (by first | omega | (simp only [List.length_append, List.length_cons, List.length_nil, List.length_take, List.length_drop, List.length_map]; omega)) ?_
  refine any_cat (q_ := 3) (listed' := (bm 8 14)) (a := [45, 45] ++ (jn k1)) (b := [45, 45]) panK_FB (by kernel_rfl) rfl (by kernel_rfl) (by kernel_rfl) (by kernel_rfl) (by kernel_rfl) (by kernel_rfl) (by kernel_rfl) (by first | omega | (simp only [List.length_append, List.length_cons, List.length_nil, List.length_take, List.length_drop, List.length_map]; omega)) ?_
  refine any_2 0 (bm 8 15) 4 (bm 8 30) (by kernel_rfl) rfl (by kernel_rfl) rfl (by kernel_rfl) ?_ ?_
  have h38 := h33.keep0 c9 (by omega)
  refine ops_loadB (i := 0) (v := v2) (by kernel_rfl) (by kernel_rfl) (by kernel_rfl) (by kernel_rfl) h38 (by kernel_rfl) ?_
  refine ops_nil ?_
  refine nx_any ⟨h36, h37, trivial⟩ ?_
  refine any_1 4 (bm 8 31) (by kernel_rfl) rfl (by kernel_rfl) ?_
  refine ops_lit (e := 9) (sz := 1) [S [], S (([45, 45] ++ (jn k1)) ++ [45, 45])] (by kernel_rfl) (by kernel_rfl) (by kernel_rfl) rfl (by decide) (fun v3 w9 h39 c10 z13 => ?_)
  have z14 := c10.size
  replace h39 : OwnS w9 (w8.heap.size) v3 [[], ([45, 45] ++ (jn k1)) ++ [45, 45]] := h39.1
  refine ops_nil ?_
  have h40 := h36.keep0 c10 (by omega)
  have h41 := h37.keep0 c10 (by omega)
  refine nx_any ⟨h40, h41, trivial⟩ ?_
  refine any_1 5 (bm 8 63) (by kernel_rfl) rfl (by kernel_rfl) ?_
  refine ops_callr (by kernel_rfl) (by kernel_rfl) (by kernel_rfl) (lines_ok h39.sl (by simp [linesP]; omega)) ?_
  rintro _ w10 ⟨rfl, c11⟩
  have z15 := c11.size
  have lf1 : (linesP [[], ([45, 45] ++ (jn k1)) ++ [45, 45]]).length ≤ 200 := by simp [linesP]; omega
  refine ops_nil ?_
  have h42 := h40.keep0 c11 (by omega)
  have h43 := h41.keep0 c11 (by omega)
  refine nx_any ⟨h42, h43, trivial⟩ ?_
  refine any_1 6 (bm 8 127) (by kernel_rfl) rfl (by kernel_rfl) ?_
  have h44 := h20.keep c8 (by omega) (fun b _ _ => by simp only [List.mem_cons, List.not_mem_nil, or_false, not_or]; omega)
  have h45 := h44.keep c9 (by omega) (fun _ _ _ => by simp)
  have h46 := h45.keep c10 (by omega) (fun _ _ _ => by simp)
  have h47 := h46.keep c11 (by omega) (fun _ _ _ => by simp)
  refine ops_appendBS (e := 5) (by_ := 1) (l1 := ((linesP (aheadL fr to (at_) (jn k1))) ++ b)) (l2 := (linesP [[], ([45, 45] ++ (jn k1)) ++ [45, 45]])) (by kernel_rfl) (by kernel_rfl) (by kernel_rfl) (by kernel_rfl) (by kernel_rfl) (by kernel_rfl) (by kernel_rfl) h47 (by first | omega | (simp only [List.length_append, List.length_cons, List.length_nil, List.length_take, List.length_drop, List.length_map]; omega)) (fun v4 w11 h48 c12 c13 => ?_)
  have z16 := c12.size
  refine ops_nil ?_
  have h49 := h42.keep0 c12 (by omega)
  have h50 := h43.keep0 c12 (by omega)
  refine nx_any ⟨h49, h50, trivial⟩ ?_
  refine any_1 7 (bm 8 255) (by kernel_rfl) rfl (by kernel_rfl) ?_
  have h51 := h38.keep0 c10 (by omega)
  have h52 := h51.keep0 c11 (by omega)
  have h53 := h52.keep0 c12 (by omega)
  refine ops_store (i := 0) (v := v4) [v4] (by kernel_rfl) (by kernel_rfl) (by kernel_rfl) (by kernel_rfl) h48.sl.one (by kernel_rfl) h53 (by kernel_rfl) (by kernel_rfl) (fun w12 h54 c14 z17 => ?_)
  have z18 := c14.size
  refine ops_nil ?_
  have h55 := h49.keep1 c14 (by omega) (by omega)
  have h56 := h50.keep1 c14 (by omega) (by omega)
  refine nx_any ⟨h55, h56, trivial⟩ ?_
  refine any_done (by kernel_rfl) ?_
  refine nx_ret (rs := []) (vs := []) rfl (by kernel_rfl) ?_
  have h57 := h48.keep c14 (by omega) (fun b _ _ => by simp only [List.mem_cons, List.not_mem_nil, or_false, not_or]; omega)
  exact .inl ⟨_, rfl, ⟨hrep, k1, _, hk1, h54, (h57.sl).wide (by omega) (Nat.le_refl _) (Nat.le_refl _)⟩, (((((((((((((Chg.refl [b3] w).step0 c1 (by omega)).step0 c2 (by omega)).step0 c3 (by omega)).step0 c4 (by omega)).step0 c5 (by omega)).step0 c6 (by omega)).step c8 (by omega) (by intro y hy; simp only [List.mem_cons, List.not_mem_nil, or_false, false_or] at hy ⊢; try omega)).step0 c9 (by omega)).step0 c10 (by omega)).step0 c11 (by omega)).step0 c12 (by omega)).step c14 (by omega) (by intro y hy; simp only [List.mem_cons, List.not_mem_nil, or_false, false_or] at hy ⊢; try omega))⟩
  refine ops_lit (e := 9) (sz := 1) [S [], S (([45, 45] ++ (jn k1)) ++ [45, 45])] (by kernel_rfl) (by kernel_rfl) (by kernel_rfl) rfl (by decide) (fun v5 w13 h58 c15 z19 => ?_)
  have z20 := c15.size
  replace h58 : OwnS w13 (w8.heap.size) v5 [[], ([45, 45] ++ (jn k1)) ++ [45, 45]] := h58.1
  refine ops_nil ?_
  have h59 := h36.keep0 c15 (by omega)
  have h60 := h37.keep0 c15 (by omega)
  refine nx_any ⟨h59, h60, trivial⟩ ?_
  refine any_2 0 (bm 8 31) 5 (bm 8 62) (by kernel_rfl) rfl (by kernel_rfl) rfl (by kernel_rfl) ?_ ?_
  have h61 := h33.keep0 c9 (by omega)
  have h62 := h61.keep0 c15 (by omega)
  refine ops_loadB (i := 0) (v := v2) (by kernel_rfl) (by kernel_rfl) (by kernel_rfl) (by kernel_rfl) h62 (by kernel_rfl) ?_
  refine ops_nil ?_
  refine nx_any ⟨h59, h60, trivial⟩ ?_
  refine any_1 5 (bm 8 63) (by kernel_rfl) rfl (by kernel_rfl) ?_
  refine ops_callr (by kernel_rfl) (by kernel_rfl) (by kernel_rfl) (lines_ok h58.sl (by simp [linesP]; omega)) ?_
  rintro _ w14 ⟨rfl, c16⟩
  have z21 := c16.size
  have lf2 : (linesP [[], ([45, 45] ++ (jn k1)) ++ [45, 45]]).length ≤ 200 := by simp [linesP]; omega
  refine ops_nil ?_
  have h63 := h59.keep0 c16 (by omega)
  have h64 := h60.keep0 c16 (by omega)
  refine nx_any ⟨h63, h64, trivial⟩ ?_
  refine any_1 6 (bm 8 127) (by kernel_rfl) rfl (by kernel_rfl) ?_
  have h65 := h20.keep c8 (by omega) (fun b _ _ => by simp only [List.mem_cons, List.not_mem_nil, or_false, not_or]; omega)
  have h66 := h65.keep c9 (by omega) (fun _ _ _ => by simp)
  have h67 := h66.keep c15 (by omega) (fun _ _ _ => by simp)
  have h68 := h67.keep c16 (by omega) (fun _ _ _ => by simp)
  refine ops_appendBS (e := 5) (by_ := 1) (l1 := ((linesP (aheadL fr to (at_) (jn k1))) ++ b)) (l2 := (linesP [[], ([45, 45] ++ (jn k1)) ++ [45, 45]])) (by kernel_rfl) (by kernel_rfl) (by kernel_rfl) (by kernel_rfl) (by kernel_rfl) (by kernel_rfl) (by kernel_rfl) h68 (by first | omega | (simp only [List.length_append, List.length_cons, List.length_nil, List.length_take, List.length_drop, List.length_map]; omega)) (fun v6 w15 h69 c17 c18 => ?_)
  have z22 := c17.size
  refine ops_nil ?_
  have h70 := h63.keep0 c17 (by omega)
  have h71 := h64.keep0 c17 (by omega)
  refine nx_any ⟨h70, h71, trivial⟩ ?_
  refine any_1 7 (bm 8 255) (by kernel_rfl) rfl (by kernel_rfl) ?_
  have h72 := h62.keep0 c16 (by omega)
  have h73 := h72.keep0 c17 (by omega)
  refine ops_store (i := 0) (v := v6) [v6] (by kernel_rfl) (by kernel_rfl) (by kernel_rfl) (by kernel_rfl) h69.sl.one (by kernel_rfl) h73 (by kernel_rfl) (by kernel_rfl) (fun w16 h74 c19 z23 => ?_)
  have z24 := c19.size
  refine ops_nil ?_
  have h75 := h70.keep1 c19 (by omega) (by omega)
  have h76 := h71.keep1 c19 (by omega) (by omega)
  refine nx_any ⟨h75, h76, trivial⟩ ?_
  refine any_done (by kernel_rfl) ?_
  refine nx_ret (rs := []) (vs := []) rfl (by kernel_rfl) ?_
  have h77 := h69.keep c19 (by omega) (fun b _ _ => by simp only [List.mem_cons, List.not_mem_nil, or_false, not_or]; omega)
  exact .inl ⟨_, rfl, ⟨hrep, k1, _, hk1, h74, (h77.sl).wide (by omega) (Nat.le_refl _) (Nat.le_refl _)⟩, (((((((((((((Chg.refl [b3] w).step0 c1 (by omega)).step0 c2 (by omega)).step0 c3 (by omega)).step0 c4 (by omega)).step0 c5 (by omega)).step0 c6 (by omega)).step c8 (by omega) (by intro y hy; simp only [List.mem_cons, List.not_mem_nil, or_false, false_or] at hy ⊢; try omega)).step0 c9 (by omega)).step0 c15 (by omega)).step0 c16 (by omega)).step0 c17 (by omega)).step c19 (by omega) (by intro y hy; simp only [List.mem_cons, List.not_mem_nil, or_false, false_or] at hy ⊢; try omega))⟩
  refine ops_callr (by kernel_rfl) (by kernel_rfl) (by kernel_rfl) (lines_ok h58.sl (by simp [linesP]; omega)) ?_
  rintro _ w17 ⟨rfl, c20⟩
  have z25 := c20.size
  have lf3 : (linesP [[], ([45, 45] ++ (jn k1)) ++ [45, 45]]).length ≤ 200 := by simp [linesP]; omega
  refine ops_nil ?_
  have h78 := h59.keep0 c20 (by omega)
  have h79 := h60.keep0 c20 (by omega)
  refine nx_any ⟨h78, h79, trivial⟩ ?_
  refine any_1 0 (bm 8 63) (by kernel_rfl) rfl (by kernel_rfl) ?_
  have h80 := h33.keep0 c9 (by omega)
  have h81 := h80.keep0 c15 (by omega)
  have h82 := h81.keep0 c20 (by omega)
  refine ops_loadB (i := 0) (v := v2) (by kernel_rfl) (by kernel_rfl) (by kernel_rfl) (by kernel_rfl) h82 (by kernel_rfl) ?_
  refine ops_nil ?_
  refine nx_any ⟨h78, h79, trivial⟩ ?_
  refine any_1 6 (bm 8 127) (by kernel_rfl) rfl (by kernel_rfl) ?_
  have h83 := h20.keep c8 (by omega) (fun b _ _ => by simp only [List.mem_cons, List.not_mem_nil, or_false, not_or]; omega)
  have h84 := h83.keep c9 (by omega) (fun _ _ _ => by simp)
  have h85 := h84.keep c15 (by omega) (fun _ _ _ => by simp)
  have h86 := h85.keep c20 (by omega) (fun _ _ _ => by simp)
  refine ops_appendBS (e := 5) (by_ := 1) (l1 := ((linesP (aheadL fr to (at_) (jn k1))) ++ b)) (l2 := (linesP [[], ([45, 45] ++ (jn k1)) ++ [45, 45]])) (by kernel_rfl) (by kernel_rfl) (by kernel_rfl) (by kernel_rfl) (by kernel_rfl) (by kernel_rfl) (by kernel_rfl) h86 (by first | omega | (simp only [List.length_append, List.length_cons, List.length_nil, List.length_take, List.length_drop, List.length_map]; omega)) (fun v7 w18 h87 c21 c22 => ?_)
  have z26 := c21.size
  refine ops_nil ?_
  have h88 := h78.keep0 c21 (by omega)
  have h89 := h79.keep0 c21 (by omega)
  refine nx_any ⟨h88, h89, trivial⟩ ?_
  refine any_1 7 (bm 8 255) (by kernel_rfl) rfl (by kernel_rfl) ?_
  have h90 := h82.keep0 c21 (by omega)
  refine ops_store (i := 0) (v := v7) [v7] (by kernel_rfl) (by kernel_rfl) (by kernel_rfl) (by kernel_rfl) h87.sl.one (by kernel_rfl) h90 (by kernel_rfl) (by kernel_rfl) (fun w19 h91 c23 z27 => ?_)
  have z28 := c23.size
  refine ops_nil ?_
  have h92 := h88.keep1 c23 (by omega) (by omega)
  have h93 := h89.keep1 c23 (by omega) (by omega)
  refine nx_any ⟨h92, h93, trivial⟩ ?_
  refine any_done (by kernel_rfl) ?_
  refine nx_ret (rs := []) (vs := []) rfl (by kernel_rfl) ?_
  have h94 := h87.keep c23 (by omega) (fun b _ _ => by simp only [List.mem_cons, List.not_mem_nil, or_false, not_or]; omega)
  exact .inl ⟨_, rfl, ⟨hrep, k1, _, hk1, h91, (h94.sl).wide (by omega) (Nat.le_refl _) (Nat.le_refl _)⟩, (((((((((((((Chg.refl [b3] w).step0 c1 (by omega)).step0 c2 (by omega)).step0 c3 (by omega)).step0 c4 (by omega)).step0 c5 (by omega)).step0 c6 (by omega)).step c8 (by omega) (by intro y hy; simp only [List.mem_cons, List.not_mem_nil, or_false, false_or] at hy ⊢; try omega)).step0 c9 (by omega)).step0 c15 (by omega)).step0 c20 (by omega)).step0 c21 (by omega)).step c23 (by omega) (by intro y hy; simp only [List.mem_cons, List.not_mem_nil, or_false, false_or] at hy ⊢; try omega))⟩
  rintro ch w1 a ha ⟨hch, hno, c1⟩
  have z29 := c1.size
  have h95 := hb3.keep0 c1 (by omega)
  exact out_panic ha (.inr ⟨_, rfl, hch, ⟨hno, h95⟩, ((Chg.refl [b3] w).step0 c1 (by omega))⟩)
theorem report_ok (fr : Bytes) (to : List Bytes) (at_ : Int) (b : Bytes) {w : World} {lo hi : Nat} {tv : Value} (ht : Ss w lo hi tv to) {lo2 hi2 : Nat} {bv : Value} (hb : Bs w lo2 hi2 bv b) (hfr : fr.length < 4611686018427387904) (hto : ∀ s, s ∈ to → s.length < 4611686018427387904) (ha0 : -9223372036854775808 ≤ at_) (ha1 : at_ ≤ 9223372036854775807) (hg : Gl w) : Rt Tryd.prog 18 #[.agg #[S fr, tv, .int .i64 at_], bv] w fun u w' => Chg [] w.heap.size w w' ∧ ((repOK fr to at_ b ∧ ∃ k v, IsBnd b k ∧ u = .tuple #[v, .int .i64 0] ∧ Bs w' w.heap.size w'.heap.size v (repB fr to at_ b (jn k))) ∨ (¬ repOK fr to at_ b ∧ u = .tuple #[.slice none 0 0, .int .i64 (repErr fr to at_)])) := by
  have hgs := hg.size
  have hhi := ht.hi_le
  have hhb := hb.hi_le
  refine enter (n := 10) (args := [.agg #[S fr, tv, .int .i64 at_], bv]) Tryd.func18 rfl rfl (Nat.le_of_ble_eq_true (by kernel_rfl)) ?_
  refine at_seq (at_region ?_)
  refine ops_box (cs := [S fr, tv, .int .i64 at_]) (by kernel_rfl) (by kernel_rfl) (by kernel_rfl) (fun b1 w1 e1 h1 c1 z1 => ?_)
  have z2 := c1.size
  have h3 := hb.keep0 c1 (by omega)
  refine ops_box (cs := [bv]) (by kernel_rfl) (by kernel_rfl) (cells_opq (v := bv) (by kernel_rfl) h3.cells1) (fun b2 w2 e2 h2 c2 z3 => ?_)
  have z4 := c2.size
  refine ops_alloc (z := .slice none 0 0) (cs := [.slice none 0 0]) (by kernel_rfl) (by kernel_rfl) (by kernel_rfl) (by kernel_rfl) (fun b3 w3 e3 h4 c3 z5 => ?_)
  have z6 := c3.size
  refine ops_run1 (l' := [(2, .pointer (some ⟨b1, 0, none⟩)), (3, .pointer (some ⟨b2, 0, none⟩)), (4, .pointer (some ⟨b3, 0, none⟩)), (5, .int .i64 0)]) (by kernel_rfl) ?_
  refine ops_nil (nx_seq (at_seq (at_region ?_)))
  refine ops_run1 (l' := [(4, .pointer (some ⟨b3, 0, none⟩)), (5, .int .i64 0), (6, .func (.func 59) #[] #[.pointer (some ⟨b1, 0, none⟩), .pointer (some ⟨b2, 0, none⟩), .pointer (some ⟨b3, 0, none⟩)])]) (by kernel_rfl) ?_
  have h5 := ht.keep0 c1 (by omega)
  have h6 := h5.keep0 c2 (by omega)
  have h7 := h6.keep0 c3 (by omega)
  have h8 := h3.keep0 c2 (by omega)
  have h9 := h8.keep0 c3 (by omega)
  have h10 := hg.keep0 c1 (by omega)
  have h11 := h10.keep0 c2 (by omega)
  have h12 := h11.keep0 c3 (by omega)
  have h13 := h1.keep0 c2 (by omega)
  have h14 := h13.keep0 c3 (by omega)
  have h15 := h2.keep0 c3 (by omega)
  refine ops_callr (by kernel_rfl) (by kernel_rfl) (by kernel_rfl) (mime_caught 59 [.pointer (some ⟨b1, 0, none⟩), .pointer (some ⟨b2, 0, none⟩), .pointer (some ⟨b3, 0, none⟩)] (fun _ _ => rfl) (fun W => repOK fr to at_ b ∧ ∃ k v, IsBnd b k ∧ Blk W b3 [v] 22 ∧ Bs W (w3.heap.size + 1) W.heap.size v (repB fr to at_ b (jn k))) (fun X W => X = repErr fr to at_ ∧ ¬ repOK fr to at_ b ∧ Blk W b3 [.slice none 0 0] 22) [b3] w3 (by intro y hy; simp only [List.mem_cons, List.not_mem_nil, or_false] at hy <;> omega) (fun W1 C1 Z1 => (report1_ok fr to at_ b (h7.keep0 C1 (by omega)) (h9.keep0 C1 (by omega)) hfr hto ha0 ha1 (h12.keep0 C1 (by omega)) (h14.keep0 C1 (by omega)) (h15.keep0 C1 (by omega)) (h4.keep0 C1 (by omega)) (by omega) (by omega) (by omega) (by omega)).mono (fun VV WW HH => (by obtain ⟨⟨q1, k, v, q2, q3, q4⟩, q5⟩ := HH; exact ⟨⟨q1, k, v, q2, q3, q4.wide (lo' := w3.heap.size + 1) (by omega) (Nat.le_refl _) (Nat.le_refl _)⟩, q5⟩)) (fun ch WW HH => ⟨_, HH.1, ⟨rfl, HH.2.1⟩, HH.2.2⟩))) ?_
  rintro _ w6 ⟨w4, w5, c4, c5, c6, (⟨rfl, h16⟩ | ⟨x1, rfl, h16⟩)⟩
  have z7 := c4.size
  have z8 := c5.size
  obtain ⟨hrep, k, rv, hbd, hrb, hrs⟩ := h16
  have hrl := hrb.lt
  have z9 := c6.size
  refine ops_run1 (l' := [(4, .pointer (some ⟨b3, 0, none⟩)), (5, .int .i64 0)]) (by kernel_rfl) ?_
  refine ops_nil (nx_seq (at_seq (at_region ?_)))
  have h17 := hrb.keep1 c6 (by omega) (by omega)
  refine ops_loadB (i := 0) (v := rv) (by kernel_rfl) (by kernel_rfl) (by kernel_rfl) (by kernel_rfl) h17 (by kernel_rfl) ?_
  refine ops_run1 (l' := [(4, .pointer (some ⟨b3, 0, none⟩)), (5, .int .i64 0), (8, rv), (9, .int .i64 0)]) (by kernel_rfl) ?_
  have h19 := hrs.keep1 c6 (by omega) (by omega)
  refine ops_store (i := 0) (v := rv) [rv] (by kernel_rfl) (by kernel_rfl) (by kernel_rfl) (by kernel_rfl) h19.one (by kernel_rfl) h17 (by kernel_rfl) (by kernel_rfl) (fun w7 h18 c7 z10 => ?_)
  have z11 := c7.size
  refine ops_run1 (l' := [(4, .pointer (some ⟨b3, 0, none⟩)), (5, .int .i64 0)]) (by kernel_rfl) ?_
  refine ops_nil (nx_seq ?_)
  refine at_retV (rs := [.cell 4 22, .tmp 5]) (vs := [rv, .int .i64 0]) rfl (ResV.cell (by kernel_rfl) h18 (by kernel_rfl) (ResV.tmp (by kernel_rfl) ResV.nil)) ?_
  have h20 := h19.keep1 c7 (by omega) (by omega)
  exact ⟨_, rfl, ((((((((Chg.refl [] w).step0 c1 (by omega)).step0 c2 (by omega)).step0 c3 (by omega)).step0 c4 (by omega)).step c5 (by omega) (by intro y hy; simp only [List.mem_cons, List.not_mem_nil, or_false, false_or] at hy ⊢; try omega)).step c6 (by omega) (by intro y hy; simp only [List.mem_cons, List.not_mem_nil, or_false, false_or] at hy ⊢; try omega)).step c7 (by omega) (by intro y hy; simp only [List.mem_cons, List.not_mem_nil, or_false, false_or] at hy ⊢; try omega)), .inl ⟨hrep, k, _, hbd, rfl, h20.wide (by omega) (by omega) (by omega)⟩⟩
  have z12 := c4.size
  have z13 := c5.size
  obtain ⟨rfl, hno, hrb⟩ := h16
  have hrl := hrb.lt
  have z14 := c6.size
  refine ops_run1 (l' := [(4, .pointer (some ⟨b3, 0, none⟩)), (5, .int .i64 (repErr fr to at_))]) (by kernel_rfl) ?_
  refine ops_nil (nx_seq (at_seq (at_region ?_)))
  have h21 := hrb.keep1 c6 (by omega) (by omega)
  refine ops_loadB (i := 0) (v := .slice none 0 0) (by kernel_rfl) (by kernel_rfl) (by kernel_rfl) (by kernel_rfl) h21 (by kernel_rfl) ?_
  refine ops_run1 (l' := [(4, .pointer (some ⟨b3, 0, none⟩)), (5, .int .i64 (repErr fr to at_)), (8, .slice none 0 0), (9, .int .i64 (repErr fr to at_))]) (by kernel_rfl) ?_
  refine ops_store (i := 0) (v := .slice none 0 0) [.slice none 0 0] (by kernel_rfl) (by kernel_rfl) (by kernel_rfl) (by kernel_rfl) (by kernel_rfl) (by kernel_rfl) h21 (by kernel_rfl) (by kernel_rfl) (fun w8 h22 c8 z15 => ?_)
  have z16 := c8.size
  refine ops_run1 (l' := [(4, .pointer (some ⟨b3, 0, none⟩)), (5, .int .i64 (repErr fr to at_))]) (by kernel_rfl) ?_
  refine ops_nil (nx_seq ?_)
  refine at_retV (rs := [.cell 4 22, .tmp 5]) (vs := [.slice none 0 0, .int .i64 (repErr fr to at_)]) rfl (ResV.cell (by kernel_rfl) h22 (by kernel_rfl) (ResV.tmp (by kernel_rfl) ResV.nil)) ?_
  exact ⟨_, rfl, ((((((((Chg.refl [] w).step0 c1 (by omega)).step0 c2 (by omega)).step0 c3 (by omega)).step0 c4 (by omega)).step c5 (by omega) (by intro y hy; simp only [List.mem_cons, List.not_mem_nil, or_false, false_or] at hy ⊢; try omega)).step c6 (by omega) (by intro y hy; simp only [List.mem_cons, List.not_mem_nil, or_false, false_or] at hy ⊢; try omega)).step c8 (by omega) (by intro y hy; simp only [List.mem_cons, List.not_mem_nil, or_false, false_or] at hy ⊢; try omega)), .inr ⟨hno, rfl⟩⟩
theorem rReport_ok (fr : Bytes) (to : List Bytes) (at_ : Int) (b : Bytes) {w : World} {lo hi : Nat} {tv : Value} (ht : Ss w lo hi tv to) {lo2 hi2 : Nat} {bv : Value} (hb : Bs w lo2 hi2 bv b) (hfr : fr.length < 4611686018427387904) (hto : ∀ s, s ∈ to → s.length < 4611686018427387904) (ha0 : -9223372036854775808 ≤ at_) (ha1 : at_ ≤ 9223372036854775807) (hg : Gl w) : Rt Tryd.prog 58 #[.agg #[S fr, tv, .int .i64 at_], bv] w fun u w' => Chg [] w.heap.size w w' ∧ ((repOK fr to at_ b ∧ ∃ k v, IsBnd b k ∧ u = .tuple #[v, .int .i64 0] ∧ Bs w' w.heap.size w'.heap.size v (repB fr to at_ b (jn k))) ∨ (¬ repOK fr to at_ b ∧ u = .tuple #[.slice none 0 0, .int .i64 (repErr fr to at_)])) := by
  have hgs := hg.size
  have htl := ht.len_le
  have hhi := ht.hi_le
  have hhb := hb.hi_le
  refine enter (n := 32) (args := [.agg #[S fr, tv, .int .i64 at_], bv]) Tryd.func58 rfl rfl (Nat.le_of_ble_eq_true (by kernel_rfl)) ?_
  refine at_seq (at_region ?_)
  refine ops_box (cs := [S fr, tv, .int .i64 at_]) (by kernel_rfl) (by kernel_rfl) (by kernel_rfl) (fun b1 w1 e1 h1 c1 z1 => ?_)
  have z2 := c1.size
  refine ops_run2 (l' := [(1, bv), (2, .pointer (some ⟨b1, 0, none⟩)), (4, .slice none 0 0), (5, .int .i64 0)]) (by kernel_rfl) ?_
  refine ops_nil (nx_seq (at_seq (at_seq (at_region ?_))))
  refine ops_loadS (i := 0) (vs := [S fr, tv, .int .i64 at_]) 3 (by kernel_rfl) (by kernel_rfl) (by kernel_rfl) (by kernel_rfl) (by kernel_rfl) h1 (by kernel_rfl) (by kernel_rfl) ?_
  have h2 := ht.keep0 c1 (by omega)
  refine ops_callr (by kernel_rfl) (by kernel_rfl) (by kernel_rfl) (envelope_ok fr to (at_) h2 (by exact hfr) (by exact hto)) ?_
  rintro _ w2 ⟨rfl, c2⟩
  have z3 := c2.size
  refine ops_run1 (l' := [(1, bv), (2, .pointer (some ⟨b1, 0, none⟩)), (4, .slice none 0 0), (5, .int .i64 0), (9, .bool (!(decide (envP fr to (at_)))))]) (by kernel_rfl) ?_
  refine ops_nil (nx_seq ?_)
  refine at_ifn (envP fr to (at_)) (by kernel_rfl) (fun q1 => ?_) (fun q1 => ?_)
  have hnenv := q1
  refine at_seq (at_region ?_)
  refine ops_run2 (l' := [(1, bv), (2, .pointer (some ⟨b1, 0, none⟩)), (4, .slice none 0 0), (5, .int .i64 110)]) (by kernel_rfl) ?_
  refine ops_nil (nx_seq ?_)
  refine at_ret (rs := [.tmp 4, .tmp 5]) (vs := [.slice none 0 0, .int .i64 110]) rfl (by kernel_rfl) ?_
  exact ⟨_, rfl, (((Chg.refl [] w).step0 c1 (by omega)).step0 c2 (by omega)), .inr ⟨fun hk => hnenv hk.1, by unfold repErr; rw [if_neg hnenv]; rfl⟩⟩
  have henv := q1
  have hfr2 : fr.length ≤ 1000000 := by rcases henv.1 with e | e <;> first | (rw [e]; simp; done) | (have := mailbox_len e; omega)
  have hto2 : ∀ s, s ∈ to → s.length ≤ 1000000 := fun s hs => by have := mailbox_len (henv.2.2.2 s hs); omega
  refine at_skip (nx_seq (at_seq (at_seq (at_region ?_))))
  refine ops_run1 (l' := [(1, bv), (2, .pointer (some ⟨b1, 0, none⟩)), (4, .slice none 0 0), (5, .int .i64 0), (10, .pointer (some ⟨b1, 1, none⟩))]) (by kernel_rfl) ?_
  have h3 := h1.keep0 c2 (by omega)
  refine ops_loadB (i := 1) (v := tv) (by kernel_rfl) (by kernel_rfl) (by kernel_rfl) (by kernel_rfl) h3 (by kernel_rfl) ?_
  have h4 := h2.keep0 c2 (by omega)
  refine ops_len (e := 9) (by kernel_rfl) (by kernel_rfl) (by kernel_rfl) (by kernel_rfl) h4 ?_
  refine ops_run2 (l' := [(1, bv), (2, .pointer (some ⟨b1, 0, none⟩)), (4, .slice none 0 0), (5, .int .i64 0), (14, .bool (decide (((to.length : Int) : Int) > (100 : Int))))]) (by kernel_rfl) ?_
  by_cases q2 : ((to.length : Int) : Int) > (100 : Int)
  rw [show (decide (((to.length : Int) : Int) > (100 : Int))) = true from decide_eq_true q2]
  refine ops_run4 (l' := [(1, bv), (2, .pointer (some ⟨b1, 0, none⟩)), (4, .slice none 0 0), (5, .int .i64 0), (18, .bool true)]) (by kernel_rfl) ?_
  refine ops_nil (nx_seq ?_)
  refine at_ift (by kernel_rfl) ?_
  refine at_seq (at_region ?_)
  refine ops_run2 (l' := [(1, bv), (2, .pointer (some ⟨b1, 0, none⟩)), (4, .slice none 0 0), (5, .int .i64 2)]) (by kernel_rfl) ?_
  refine ops_nil (nx_seq ?_)
  refine at_ret (rs := [.tmp 4, .tmp 5]) (vs := [.slice none 0 0, .int .i64 2]) rfl (by kernel_rfl) ?_
  exact ⟨_, rfl, (((Chg.refl [] w).step0 c1 (by omega)).step0 c2 (by omega)), .inr ⟨fun hk => (by rcases hk with ⟨g1, g2, g3⟩; omega), by unfold repErr; rw [if_pos henv]; rfl⟩⟩
  rw [show (decide (((to.length : Int) : Int) > (100 : Int))) = false from decide_eq_false q2]
  refine ops_run1 (l' := [(1, bv), (2, .pointer (some ⟨b1, 0, none⟩)), (4, .slice none 0 0), (5, .int .i64 0), (14, .bool false), (15, bv)]) (by kernel_rfl) ?_
  have h5 := hb.keep0 c1 (by omega)
  have h6 := h5.keep0 c2 (by omega)
  refine ops_len (e := 5) (by kernel_rfl) (by kernel_rfl) (by kernel_rfl) (by kernel_rfl) h6 ?_
  refine ops_run2 (l' := [(1, bv), (2, .pointer (some ⟨b1, 0, none⟩)), (4, .slice none 0 0), (5, .int .i64 0), (18, .bool (decide (((b.length : Int) : Int) > (1000000 : Int))))]) (by kernel_rfl) ?_
  refine ops_nil (nx_seq ?_)
  refine at_ifp (((b.length : Int) : Int) > (1000000 : Int)) (by kernel_rfl) (fun q3 => ?_) (fun q3 => ?_)
  refine at_seq (at_region ?_)
  refine ops_run2 (l' := [(1, bv), (2, .pointer (some ⟨b1, 0, none⟩)), (4, .slice none 0 0), (5, .int .i64 2)]) (by kernel_rfl) ?_
  refine ops_nil (nx_seq ?_)
  refine at_ret (rs := [.tmp 4, .tmp 5]) (vs := [.slice none 0 0, .int .i64 2]) rfl (by kernel_rfl) ?_
  exact ⟨_, rfl, (((Chg.refl [] w).step0 c1 (by omega)).step0 c2 (by omega)), .inr ⟨fun hk => (by rcases hk with ⟨g1, g2, g3⟩; omega), by unfold repErr; rw [if_pos henv]; rfl⟩⟩
  refine at_skip (nx_seq (at_seq (at_region ?_)))
  refine ops_run1 (l' := [(1, bv), (2, .pointer (some ⟨b1, 0, none⟩)), (4, .slice none 0 0), (5, .int .i64 0), (19, bv)]) (by kernel_rfl) ?_
  have h7 := hg.keep0 c1 (by omega)
  have h8 := h7.keep0 c2 (by omega)
  refine ops_callr (by kernel_rfl) (by kernel_rfl) (by kernel_rfl) (rBoundary_ok h6 (by first | omega | (simp only [List.length_append, List.length_cons, List.length_nil, List.length_take, List.length_drop, List.length_map]; omega)) h8) ?_
  rintro _ w3 ⟨k1, rfl, hk1, hk2, c3⟩
  have jl1 := jn_len k1 (by omega)
  have z4 := c3.size
  refine ops_run1 (l' := [(1, bv), (2, .pointer (some ⟨b1, 0, none⟩)), (4, .slice none 0 0), (5, .int .i64 0), (6, S (jn k1))]) (by kernel_rfl) ?_
  refine ops_nil (nx_seq (at_seq ?_))
  have h9 := h3.keep0 c3 (by omega)
  refine at_draw (m := 13) (listed := (bm 13 0)) (fun W => Blk W b1 [S fr, tv, .int .i64 at_] 26 ∧ True) (by kernel_rfl) (by kernel_rfl) (by kernel_rfl) (fun w4 c4 z5 _ _ => ?_)
  have z6 := c4.size
  have h10 := h9.keep0 c4 (by omega)
  refine ⟨⟨h10, trivial⟩, ?_⟩
  refine any_loadS (i := 0) (j := 0) (listed' := (bm 13 1)) (vs := [S fr, tv, .int .i64 at_]) 3 panK_FB (by kernel_rfl) rfl (by kernel_rfl) (by kernel_rfl) (by kernel_rfl) (by kernel_rfl) (by kernel_rfl) (by kernel_rfl) (by kernel_rfl) (fun W hW => hW.1) (by kernel_rfl) (by kernel_rfl) ?_
  refine any_takes [1, 3, 7] (fuel' := 9) (listed' := (bm 13 139)) (l' := [(4, .slice none 0 0), (5, .int .i64 0), (21, .agg #[S fr, tv, .int .i64 at_]), (22, S (jn k1)), (24, bv), (28, S (jn k1))]) panK_FB (by kernel_rfl) (by kernel_rfl) (by kernel_rfl) ?_
  refine any_2 2 (bm 13 143) 4 (bm 13 155) (by kernel_rfl) rfl (by kernel_rfl) rfl (by kernel_rfl) ?_ ?_
  have h11 := h4.keep0 c3 (by omega)
  have h12 := h11.keep0 c4 (by omega)
  have h13 := h8.keep0 c3 (by omega)
  have h14 := h13.keep0 c4 (by omega)
  refine ops_callr (by kernel_rfl) (by kernel_rfl) (by kernel_rfl) (head_ok fr to (at_) (jn k1) h12 hfr2 hto2 (by omega) ha0 ha1 (by first | omega | (simp only [List.length_append, List.length_cons, List.length_nil, List.length_take, List.length_drop, List.length_map]; omega)) h14) ?_
  rintro _ w5 ⟨rfl, c5⟩
  have z7 := c5.size
  have ab1 := ahead_bound (fr := fr) (to := to) (at_ := at_) (n := jn k1) hfr2 hto2 (by first | omega | (simp only [List.length_append, List.length_cons, List.length_nil, List.length_take, List.length_drop, List.length_map]; omega)) (by omega) ha0 ha1
  refine ops_nil ?_
  have h15 := h10.keep0 c5 (by omega)
  refine nx_any ⟨h15, trivial⟩ ?_
  refine any_1 4 (bm 13 159) (by kernel_rfl) rfl (by kernel_rfl) ?_
  have h16 := h6.keep0 c3 (by omega)
  have h17 := h16.keep0 c4 (by omega)
  have h18 := h17.keep0 c5 (by omega)
  refine ops_toS (b := b) (by kernel_rfl) (by kernel_rfl) (by kernel_rfl) (by kernel_rfl) (by kernel_rfl) h18 ?_
  refine ops_nil ?_
  refine nx_any ⟨h15, trivial⟩ ?_
  refine any_cat (q_ := 5) (listed' := (bm 13 191)) (a := linesP (aheadL fr to (at_) (jn k1))) (b := b) panK_FB (by kernel_rfl) rfl (by kernel_rfl) (by kernel_rfl) (by kernel_rfl) (by kernel_rfl) (by kernel_rfl) (by kernel_rfl) (by first | omega | (simp only [List.length_append, List.length_cons, List.length_nil, List.length_take, List.length_drop, List.length_map]; omega)) ?_
  refine any_cat (q_ := 6) (listed' := (bm 13 255)) (a := (linesP (aheadL fr to (at_) (jn k1))) ++ b) (b := [13, 10, 45, 45]) panK_FB (by kernel_rfl) rfl (by kernel_rfl) (by kernel_rfl) (by kernel_rfl) (by kernel_rfl) (by kernel_rfl) (by kernel_rfl) (by first | omega | (simp only [List.length_append, List.length_cons, List.length_nil, List.length_take, List.length_drop, List.length_map]; omega)) ?_
  refine any_cat (q_ := 8) (listed' := (bm 13 511)) (a := ((linesP (aheadL fr to (at_) (jn k1))) ++ b) ++ [13, 10, 45, 45]) (b := jn k1) panK_FB (by kernel_rfl) rfl (by kernel_rfl) (by kernel_rfl) (by kernel_rfl) (by kernel_rfl) (by kernel_rfl) (by kernel_rfl) (by first | omega | (simp only [List.length_append, List.length_cons, List.length_nil, List.length_take, List.length_drop, List.length_map]; omega)) ?_
  refine any_cat (q_ := 9) (listed' := (bm 13 1023)) (a := (((linesP (aheadL fr to (at_) (jn k1))) ++ b) ++ [13, 10, 45, 45]) ++ (jn k1)) (b := [45, 45, 13, 10]) panK_FB (by kernel_rfl) rfl (by kernel_rfl) (by kernel_rfl) (by kernel_rfl) (by kernel_rfl) (by kernel_rfl) (by kernel_rfl) (by first | omega | (simp only [List.length_append, List.length_cons, List.length_nil, List.length_take, List.length_drop, List.length_map]; omega)) ?_
  refine any_1 10 (bm 13 2047) (by kernel_rfl) rfl (by kernel_rfl) ?_
  refine ops_toB (b := ((((linesP (aheadL fr to (at_) (jn k1))) ++ b) ++ [13, 10, 45, 45]) ++ (jn k1)) ++ [45, 45, 13, 10]) (by kernel_rfl) (by kernel_rfl) (by kernel_rfl) (by kernel_rfl) (by kernel_rfl) (by first | omega | (simp only [List.length_append, List.length_cons, List.length_nil, List.length_take, List.length_drop, List.length_map]; omega)) (fun v1 w6 h19 c6 z8 => ?_)
  have z9 := c6.size
  refine ops_nil ?_
  have h20 := h15.keep0 c6 (by omega)
  refine nx_any ⟨h20, trivial⟩ ?_
  refine any_takes [11, 12] (fuel' := 0) (listed' := (bm 13 8191)) (l' := [(4, v1), (5, .int .i64 0)]) panK_FB (by kernel_rfl) (by kernel_rfl) (by kernel_rfl) ?_
  refine any_done (by kernel_rfl) ?_
  refine nx_seq ?_
  refine at_ret (rs := [.tmp 4, .tmp 5]) (vs := [v1, .int .i64 0]) rfl (by kernel_rfl) ?_
  have hres := h19.sl
  exact ⟨_, rfl, (((((((Chg.refl [] w).step0 c1 (by omega)).step0 c2 (by omega)).step0 c3 (by omega)).step0 c4 (by omega)).step0 c5 (by omega)).step0 c6 (by omega)), .inl ⟨⟨henv, by omega, by omega⟩, k1, _, hk1, rfl, (bs_cast hres (by unfold repB tailP; simp [linesP])).wide (by omega) (Nat.le_refl _) (Nat.le_refl _)⟩⟩
  have h21 := h6.keep0 c3 (by omega)
  have h22 := h21.keep0 c4 (by omega)
  refine ops_toS (b := b) (by kernel_rfl) (by kernel_rfl) (by kernel_rfl) (by kernel_rfl) (by kernel_rfl) h22 ?_
  refine ops_nil ?_
  refine nx_any ⟨h10, trivial⟩ ?_
  refine any_1 2 (bm 13 159) (by kernel_rfl) rfl (by kernel_rfl) ?_
  have h23 := h4.keep0 c3 (by omega)
  have h24 := h23.keep0 c4 (by omega)
  have h25 := h8.keep0 c3 (by omega)
  have h26 := h25.keep0 c4 (by omega)
  refine ops_callr (by kernel_rfl) (by kernel_rfl) (by kernel_rfl) (head_ok fr to (at_) (jn k1) h24 hfr2 hto2 (by omega) ha0 ha1 (by first | omega | (simp only [List.length_append, List.length_cons, List.length_nil, List.length_take, List.length_drop, List.length_map]; omega)) h26) ?_
  rintro _ w7 ⟨rfl, c7⟩
  have z10 := c7.size
  have ab2 := ahead_bound (fr := fr) (to := to) (at_ := at_) (n := jn k1) hfr2 hto2 (by first | omega | (simp only [List.length_append, List.length_cons, List.length_nil, List.length_take, List.length_drop, List.length_map]; omega)) (by omega) ha0 ha1
  refine ops_nil ?_
  have h27 := h10.keep0 c7 (by omega)
  refine nx_any ⟨h27, trivial⟩ ?_
  refine any_cat (q_ := 5) (listed' := (bm 13 191)) (a := linesP (aheadL fr to (at_) (jn k1))) (b := b) panK_FB (by kernel_rfl) rfl (by kernel_rfl) (by kernel_rfl) (by kernel_rfl) (by kernel_rfl) (by kernel_rfl) (by kernel_rfl) (by first | omega | (simp only [List.length_append, List.length_cons, List.length_nil, List.length_take, List.length_drop, List.length_map]; omega)) ?_
  refine any_cat (q_ := 6) (listed' := (bm 13 255)) (a := (linesP (aheadL fr to (at_) (jn k1))) ++ b) (b := [13, 10, 45, 45]) panK_FB (by kernel_rfl) rfl (by kernel_rfl) (by kernel_rfl) (by kernel_rfl) (by kernel_rfl) (by kernel_rfl) (by kernel_rfl) (by first | omega | (simp only [List.length_append, List.length_cons, List.length_nil, List.length_take, List.length_drop, List.length_map]; omega)) ?_
  refine any_cat (q_ := 8) (listed' := (bm 13 511)) (a := ((linesP (aheadL fr to (at_) (jn k1))) ++ b) ++ [13, 10, 45, 45]) (b := jn k1) panK_FB (by kernel_rfl) rfl (by kernel_rfl) (by kernel_rfl) (by kernel_rfl) (by kernel_rfl) (by kernel_rfl) (by kernel_rfl) (by first | omega | (simp only [List.length_append, List.length_cons, List.length_nil, List.length_take, List.length_drop, List.length_map]; omega)) ?_
  refine any_cat (q_ := 9) (listed' := (bm 13 1023)) (a := (((linesP (aheadL fr to (at_) (jn k1))) ++ b) ++ [13, 10, 45, 45]) ++ (jn k1)) (b := [45, 45, 13, 10]) panK_FB (by kernel_rfl) rfl (by kernel_rfl) (by kernel_rfl) (by kernel_rfl) (by kernel_rfl) (by kernel_rfl) (by kernel_rfl) (by first | omega | (simp only [List.length_append, List.length_cons, List.length_nil, List.length_take, List.length_drop, List.length_map]; omega)) ?_
  refine any_1 10 (bm 13 2047) (by kernel_rfl) rfl (by kernel_rfl) ?_
  refine ops_toB (b := ((((linesP (aheadL fr to (at_) (jn k1))) ++ b) ++ [13, 10, 45, 45]) ++ (jn k1)) ++ [45, 45, 13, 10]) (by kernel_rfl) (by kernel_rfl) (by kernel_rfl) (by kernel_rfl) (by kernel_rfl) (by first | omega | (simp only [List.length_append, List.length_cons, List.length_nil, List.length_take, List.length_drop, List.length_map]; omega)) (fun v2 w8 h28 c8 z11 => ?_)
  have z12 := c8.size
  refine ops_nil ?_
  have h29 := h27.keep0 c8 (by omega)
  refine nx_any ⟨h29, trivial⟩ ?_
  refine any_takes [11, 12] (fuel' := 0) (listed' := (bm 13 8191)) (l' := [(4, v2), (5, .int .i64 0)]) panK_FB (by kernel_rfl) (by kernel_rfl) (by kernel_rfl) ?_
  refine any_done (by kernel_rfl) ?_
  refine nx_seq ?_
  refine at_ret (rs := [.tmp 4, .tmp 5]) (vs := [v2, .int .i64 0]) rfl (by kernel_rfl) ?_
  have hres := h28.sl
  exact ⟨_, rfl, (((((((Chg.refl [] w).step0 c1 (by omega)).step0 c2 (by omega)).step0 c3 (by omega)).step0 c4 (by omega)).step0 c7 (by omega)).step0 c8 (by omega)), .inl ⟨⟨henv, by omega, by omega⟩, k1, _, hk1, rfl, (bs_cast hres (by unfold repB tailP; simp [linesP])).wide (by omega) (Nat.le_refl _) (Nat.le_refl _)⟩⟩

end Go.Proofs.YtnjkdnbabogcjaaDoor
