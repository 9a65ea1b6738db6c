/- A walk, printed by a program of my own (wip/gen/walk.py) from a script of mine. -/
import Derived.Test.YtnjkdnbabogcjaaDoorProg
import Derived.Test.YtnjkdnbabogcjaaDoorL0
import Derived.Test.YtnjkdnbabogcjaaDoorP6
set_option maxHeartbeats 4000000
set_option linter.unusedVariables false
set_option linter.unusedSimpArgs false
set_option maxRecDepth 100000
namespace Go.Proofs.YtnjkdnbabogcjaaDoor
open Go Go.RowKit Go.Kw

theorem check1_ok (fr : Bytes) (to : List Bytes) (at_ : Int) {w : World} {lo hi : Nat} {tv : Value} (ht : Ss w lo hi tv to) (body : Bytes) {lo2 hi2 : Nat} {bv : Value} (hb : Bs w lo2 hi2 bv body) (hfr : fr.length < 4294967281) (hto : ∀ s, s ∈ to → s.length < 4294967281) (hg : Gl w) {b1 b2 : Nat} (hb1 : Blk w b1 [S fr, tv, .int .i64 at_] 26) (hb2 : Blk w b2 [bv] 22) :
    Rp Tryd.prog 84 [.pointer (some ⟨b1, 0, none⟩), .pointer (some ⟨b2, 0, none⟩)].toArray w (fun _ w2 => checkP fr to at_ body ∧ Chg [] w.heap.size w w2) (fun ch w2 => ch = thrown 121 ∧ ¬ checkP fr to at_ body ∧ Chg [] w.heap.size w w2) := by
  have hhi := ht.hi_le
  have hhb := hb.hi_le
  have htl := ht.len_le
  have hgs := hg.size
  have hl1 := hb1.lt
  have hl2 := hb2.lt
  refine enter (n := 45) (args := [.pointer (some ⟨b1, 0, none⟩), .pointer (some ⟨b2, 0, none⟩)]) Tryd.func84 rfl rfl (Nat.le_of_ble_eq_true (by kernel_rfl)) ?_
  refine at_seq (at_region ?_)
  refine ops_run1 (l' := [(0, .pointer (some ⟨b1, 0, none⟩)), (1, .pointer (some ⟨b2, 0, none⟩)), (4, .pointer (some ⟨b1, 0, none⟩))]) (by kernel_rfl) ?_
  refine ops_loadB (i := 0) (v := S fr) (by kernel_rfl) (by kernel_rfl) (by kernel_rfl) (by kernel_rfl) hb1 (by kernel_rfl) ?_
  refine ops_eqS (a := fr) (b := []) (by kernel_rfl) (by kernel_rfl) (by kernel_rfl) (by kernel_rfl) ?_
  refine ops_run1 (l' := [(0, .pointer (some ⟨b1, 0, none⟩)), (1, .pointer (some ⟨b2, 0, none⟩)), (7, .bool (decide ((fr : Bytes) = [])))]) (by kernel_rfl) ?_
  by_cases q1 : (fr : Bytes) = []
  rw [show (decide ((fr : Bytes) = [])) = true from decide_eq_true q1]
  have l1 : fr.length = 0 := by rw [q1]; rfl
  refine ops_run4 (l' := [(0, .pointer (some ⟨b1, 0, none⟩)), (1, .pointer (some ⟨b2, 0, none⟩)), (11, .bool true)]) (by kernel_rfl) ?_
  refine ops_callp (by kernel_rfl) (by kernel_rfl) (by kernel_rfl) (entry_must true w) ?_ (fun ch w' a ha h => by cases h.1)
  rintro _ w1 ⟨_, rfl, hwq⟩
  rw [hwq]
  clear hwq w1
  refine ops_nil (nx_seq (at_seq (at_region ?_)))
  refine ops_run1 (l' := [(0, .pointer (some ⟨b1, 0, none⟩)), (1, .pointer (some ⟨b2, 0, none⟩)), (13, .pointer (some ⟨b1, 1, none⟩))]) (by kernel_rfl) ?_
  refine ops_loadB (i := 1) (v := tv) (by kernel_rfl) (by kernel_rfl) (by kernel_rfl) (by kernel_rfl) hb1 (by kernel_rfl) ?_
  refine ops_len (e := 9) (by kernel_rfl) (by kernel_rfl) (by kernel_rfl) (by kernel_rfl) ht ?_
  refine ops_run2 (l' := [(0, .pointer (some ⟨b1, 0, none⟩)), (1, .pointer (some ⟨b2, 0, none⟩)), (17, .bool (decide (((to.length : Int) : Int) > (0 : Int))))]) (by kernel_rfl) ?_
  by_cases q3 : ((to.length : Int) : Int) > (0 : Int)
  rw [show (decide (((to.length : Int) : Int) > (0 : Int))) = true from decide_eq_true q3]
  refine ops_run1 (l' := [(0, .pointer (some ⟨b1, 0, none⟩)), (1, .pointer (some ⟨b2, 0, none⟩)), (17, .bool true), (18, .pointer (some ⟨b1, 1, none⟩))]) (by kernel_rfl) ?_
  refine ops_loadB (i := 1) (v := tv) (by kernel_rfl) (by kernel_rfl) (by kernel_rfl) (by kernel_rfl) hb1 (by kernel_rfl) ?_
  refine ops_len (e := 9) (by kernel_rfl) (by kernel_rfl) (by kernel_rfl) (by kernel_rfl) ht ?_
  refine ops_run3 (l' := [(0, .pointer (some ⟨b1, 0, none⟩)), (1, .pointer (some ⟨b2, 0, none⟩)), (23, .bool (decide (((to.length : Int) : Int) ≤ (100 : Int))))]) (by kernel_rfl) ?_
  by_cases q4 : ((to.length : Int) : Int) ≤ (100 : Int)
  rw [show (decide (((to.length : Int) : Int) ≤ (100 : Int))) = true from decide_eq_true q4]
  refine ops_run1 (l' := [(0, .pointer (some ⟨b1, 0, none⟩)), (1, .pointer (some ⟨b2, 0, none⟩)), (23, .bool true), (24, .pointer (some ⟨b1, 2, none⟩))]) (by kernel_rfl) ?_
  refine ops_loadB (i := 2) (v := .int .i64 at_) (by kernel_rfl) (by kernel_rfl) (by kernel_rfl) (by kernel_rfl) hb1 (by kernel_rfl) ?_
  refine ops_run3 (l' := [(0, .pointer (some ⟨b1, 0, none⟩)), (1, .pointer (some ⟨b2, 0, none⟩)), (28, .bool (decide ((at_ : Int) ≥ (0 : Int))))]) (by kernel_rfl) ?_
  by_cases q5 : (at_ : Int) ≥ (0 : Int)
  rw [show (decide ((at_ : Int) ≥ (0 : Int))) = true from decide_eq_true q5]
  refine ops_loadB (i := 0) (v := bv) (by kernel_rfl) (by kernel_rfl) (by kernel_rfl) (by kernel_rfl) hb2 (by kernel_rfl) ?_
  refine ops_len (e := 5) (by kernel_rfl) (by kernel_rfl) (by kernel_rfl) (by kernel_rfl) hb ?_
  refine ops_run2 (l' := [(0, .pointer (some ⟨b1, 0, none⟩)), (32, .bool (decide (((body.length : Int) : Int) ≤ (500000 : Int))))]) (by kernel_rfl) ?_
  refine ops_callp (by kernel_rfl) (by kernel_rfl) (by kernel_rfl) (entry_must (decide (((body.length : Int) : Int) ≤ (500000 : Int))) w) ?_ ?_
  rintro _ w2 ⟨q6, rfl, hwq⟩
  rw [hwq]
  clear hwq w2
  replace q6 := of_decide_eq_true q6
  refine ops_nil (nx_seq (at_seq (at_region ?_)))
  refine ops_run1 (l' := [(34, .pointer (some ⟨b1, 1, none⟩))]) (by kernel_rfl) ?_
  refine ops_loadB (i := 1) (v := tv) (by kernel_rfl) (by kernel_rfl) (by kernel_rfl) (by kernel_rfl) hb1 (by kernel_rfl) ?_
  refine ops_len (e := 9) (by kernel_rfl) (by kernel_rfl) (by kernel_rfl) (by kernel_rfl) ht ?_
  refine ops_run1 (l' := [(35, tv), (36, .int .i64 ((to.length : Int))), (37, .int .i64 0)]) (by kernel_rfl) ?_
  refine ops_nil (nx_seq (at_block ?_))
  refine at_loop (X := Nat) (fun x_ => [(35, tv), (36, .int .i64 ((to.length : Int))), (37, .int .i64 ((x_ : Int)))]) (fun x_ W1 => Chg [] (w.heap.size) w W1 ∧ (x_ ≤ to.length) ∧ (∀ q, q < x_ → mailboxP (to.getD q []))) (fun x_ => to.length - x_) 0 (proj_sub [35, 36, 37] (by kernel_rfl)) ⟨(Chg.refl [] w), (show 0 ≤ to.length by first | omega | (simp only [List.length_append, List.length_cons, List.length_nil, List.length_take, List.length_drop, List.length_map]; omega)), (show ∀ q, q < 0 → mailboxP (to.getD q []) by intro q hq; omega)⟩ ?_
  rintro k w3 ⟨h1, h2, h3⟩
  replace h1 : Chg [] (w.heap.size) w w3 := h1
  replace h2 : (k ≤ to.length) := h2
  replace h3 : (∀ q, q < k → mailboxP (to.getD q [])) := h3
  have z1 := h1.size
  have hall := h3
  refine at_seq (at_region ?_)
  refine ops_run1 (l' := [(35, tv), (36, .int .i64 ((to.length : Int))), (37, .int .i64 ((k : Int))), (38, .bool (decide (((k : Int) : Int) < ((to.length : Int) : Int))))]) (by kernel_rfl) ?_
  refine ops_nil (nx_seq (at_seq ?_))
  refine at_ifp (((k : Int) : Int) < ((to.length : Int) : Int)) (by kernel_rfl) (fun q7 => ?_) (fun q7 => ?_)
  refine at_skip (nx_seq (at_seq (at_block (at_seq (at_region ?_)))))
  have h4 := ht.keep0 h1 (by omega)
  refine ops_idx (e := 9) (i := (k : Int)) (kd := .i64) k (by kernel_rfl) (by kernel_rfl) (by kernel_rfl) (by kernel_rfl) (by kernel_rfl) (by kernel_rfl) h4 (by omega) (by first | omega | (simp only [List.length_append, List.length_cons, List.length_nil, List.length_take, List.length_drop, List.length_map]; omega)) (fun a1 h5 => ?_)
  have h6 := cell_sAt (l := to) (j := k) h5 (by omega)
  refine ops_load (by kernel_rfl) (by kernel_rfl) (by kernel_rfl) (by kernel_rfl) h6 ?_
  have hpl := hto (to.getD k []) (getD_mem (by omega))
  refine ops_run1 (l' := [(3, S (to.getD k [])), (35, tv), (36, .int .i64 ((to.length : Int))), (37, .int .i64 ((k : Int)))]) (by kernel_rfl) ?_
  refine ops_nil (nx_seq (at_region ?_))
  refine ops_run1 (l' := [(35, tv), (36, .int .i64 ((to.length : Int))), (37, .int .i64 ((k : Int))), (41, S (to.getD k []))]) (by kernel_rfl) ?_
  have h7 := hg.keep0 h1 (by omega)
  refine ops_callr (by kernel_rfl) (by kernel_rfl) (by kernel_rfl) (mailbox_ok (to.getD k []) (by first | omega | (simp only [List.length_append, List.length_cons, List.length_nil, List.length_take, List.length_drop, List.length_map]; omega)) w3 h7) ?_
  rintro _ w4 ⟨rfl, c1⟩
  have z2 := c1.size
  refine ops_callp (by kernel_rfl) (by kernel_rfl) (by kernel_rfl) (entry_must (decide (mailboxP (to.getD k []))) w4) ?_ ?_
  rintro _ w5 ⟨q8, rfl, hwq⟩
  rw [hwq]
  clear hwq w5
  replace q8 := of_decide_eq_true q8
  refine ops_nil (nx_blk (nx_seq (at_region ?_)))
  refine ops_add (a := (k : Int)) (b := 1) (kd := .i64) (by kernel_rfl) (by kernel_rfl) (by kernel_rfl) (by kernel_rfl) (show (-9223372036854775808 : Int) ≤ ((k : Int)) + 1 by omega) (show ((k : Int)) + 1 ≤ (9223372036854775807 : Int) by omega) ?_
  refine ops_run1 (l' := [(35, tv), (36, .int .i64 ((to.length : Int))), (37, .int .i64 (((k : Int)) + 1))]) (by kernel_rfl) ?_
  refine ops_nil ?_
  refine nx_round ((k) + 1) (proj_sub [35, 36, 37] (by kernel_rfl)) ⟨(((Chg.refl [] w).step0 h1 (by omega)).step0 c1 (by omega)), (show ((k) + 1) ≤ to.length by first | omega | (simp only [List.length_append, List.length_cons, List.length_nil, List.length_take, List.length_drop, List.length_map]; omega)), (show ∀ q, q < ((k) + 1) → mailboxP (to.getD q []) by exact fun q hq => if e : q = k then (by rw [e]; assumption) else hall q (by omega))⟩ (show to.length - ((k) + 1) < to.length - k by omega)
  rintro ch w5 a ha ⟨q8, hch, hwq⟩
  rw [hwq]
  replace q8 := of_decide_eq_false q8
  exact out_panic ha (.inr ⟨_, rfl, hch, fun hk => (by rcases hk with ⟨⟨g1, g2, g3, g4⟩, g5, g6⟩; first | omega | (rcases g1 with g1 | g1 <;> contradiction) | (have := g4 (to.getD k []) (getD_mem (by omega)); contradiction)), (((Chg.refl [] w).step0 h1 (by omega)).step0 c1 (by omega))⟩)
  refine at_exit (ex_seq (ex_inv (ex_here ?_)))
  refine nx_ret (rs := []) (vs := []) rfl (by kernel_rfl) ?_
  exact .inl ⟨_, rfl, ⟨⟨by first | exact .inl (by assumption) | exact .inr (by assumption), by omega, by omega, all_of_getD (d := []) (fun q hq => hall q (by omega))⟩, by omega, by omega⟩, ((Chg.refl [] w).step0 h1 (by omega))⟩
  rintro ch w2 a ha ⟨q6, hch, hwq⟩
  rw [hwq]
  replace q6 := of_decide_eq_false q6
  exact out_panic ha (.inr ⟨_, rfl, hch, fun hk => (by rcases hk with ⟨⟨g1, g2, g3, g4⟩, g5, g6⟩; first | omega | (rcases g1 with g1 | g1 <;> contradiction) | (have := g4 (to.getD k []) (getD_mem (by omega)); contradiction)), (Chg.refl [] w)⟩)
  rw [show (decide ((at_ : Int) ≥ (0 : Int))) = false from decide_eq_false q5]
  refine ops_run4 (l' := [(0, .pointer (some ⟨b1, 0, none⟩)), (32, .bool false)]) (by kernel_rfl) ?_
  refine ops_callp (by kernel_rfl) (by kernel_rfl) (by kernel_rfl) (entry_must (false) w) (fun v w' h => by cases h.1) ?_
  rintro ch w6 a ha ⟨q9, hch, hwq⟩
  rw [hwq]
  exact out_panic ha (.inr ⟨_, rfl, hch, fun hk => (by rcases hk with ⟨⟨g1, g2, g3, g4⟩, g5, g6⟩; first | omega | (rcases g1 with g1 | g1 <;> contradiction) | (have := g4 (to.getD k []) (getD_mem (by omega)); contradiction)), (Chg.refl [] w)⟩)
  rw [show (decide (((to.length : Int) : Int) ≤ (100 : Int))) = false from decide_eq_false q4]
  refine ops_run9 (l' := [(0, .pointer (some ⟨b1, 0, none⟩)), (32, .bool false)]) (by kernel_rfl) ?_
  refine ops_callp (by kernel_rfl) (by kernel_rfl) (by kernel_rfl) (entry_must (false) w) (fun v w' h => by cases h.1) ?_
  rintro ch w7 a ha ⟨q10, hch, hwq⟩
  rw [hwq]
  exact out_panic ha (.inr ⟨_, rfl, hch, fun hk => (by rcases hk with ⟨⟨g1, g2, g3, g4⟩, g5, g6⟩; first | omega | (rcases g1 with g1 | g1 <;> contradiction) | (have := g4 (to.getD k []) (getD_mem (by omega)); contradiction)), (Chg.refl [] w)⟩)
  rw [show (decide (((to.length : Int) : Int) > (0 : Int))) = false from decide_eq_false q3]
  refine ops_run15 (l' := [(0, .pointer (some ⟨b1, 0, none⟩)), (32, .bool false)]) (by kernel_rfl) ?_
  refine ops_callp (by kernel_rfl) (by kernel_rfl) (by kernel_rfl) (entry_must (false) w) (fun v w' h => by cases h.1) ?_
  rintro ch w8 a ha ⟨q11, hch, hwq⟩
  rw [hwq]
  exact out_panic ha (.inr ⟨_, rfl, hch, fun hk => (by rcases hk with ⟨⟨g1, g2, g3, g4⟩, g5, g6⟩; first | omega | (rcases g1 with g1 | g1 <;> contradiction) | (have := g4 (to.getD k []) (getD_mem (by omega)); contradiction)), (Chg.refl [] w)⟩)
  rw [show (decide ((fr : Bytes) = [])) = false from decide_eq_false q1]
  have l2 := List.length_pos_iff.2 q1
  refine ops_run1 (l' := [(0, .pointer (some ⟨b1, 0, none⟩)), (1, .pointer (some ⟨b2, 0, none⟩)), (7, .bool false), (8, .pointer (some ⟨b1, 0, none⟩))]) (by kernel_rfl) ?_
  refine ops_loadB (i := 0) (v := S fr) (by kernel_rfl) (by kernel_rfl) (by kernel_rfl) (by kernel_rfl) hb1 (by kernel_rfl) ?_
  refine ops_callr (by kernel_rfl) (by kernel_rfl) (by kernel_rfl) (mailbox_ok fr (by first | omega | (simp only [List.length_append, List.length_cons, List.length_nil, List.length_take, List.length_drop, List.length_map]; omega)) w hg) ?_
  rintro _ w9 ⟨rfl, c2⟩
  have z3 := c2.size
  refine ops_run1 (l' := [(0, .pointer (some ⟨b1, 0, none⟩)), (1, .pointer (some ⟨b2, 0, none⟩)), (11, .bool (decide (mailboxP fr)))]) (by kernel_rfl) ?_
  refine ops_callp (by kernel_rfl) (by kernel_rfl) (by kernel_rfl) (entry_must (decide (mailboxP fr)) w9) ?_ ?_
  rintro _ w10 ⟨q12, rfl, hwq⟩
  rw [hwq]
  clear hwq w10
  replace q12 := of_decide_eq_true q12
  refine ops_nil (nx_seq (at_seq (at_region ?_)))
  refine ops_run1 (l' := [(0, .pointer (some ⟨b1, 0, none⟩)), (1, .pointer (some ⟨b2, 0, none⟩)), (13, .pointer (some ⟨b1, 1, none⟩))]) (by kernel_rfl) ?_
  have h8 := hb1.keep0 c2 (by omega)
  refine ops_loadB (i := 1) (v := tv) (by kernel_rfl) (by kernel_rfl) (by kernel_rfl) (by kernel_rfl) h8 (by kernel_rfl) ?_
  have h9 := ht.keep0 c2 (by omega)
  refine ops_len (e := 9) (by kernel_rfl) (by kernel_rfl) (by kernel_rfl) (by kernel_rfl) h9 ?_
  refine ops_run2 (l' := [(0, .pointer (some ⟨b1, 0, none⟩)), (1, .pointer (some ⟨b2, 0, none⟩)), (17, .bool (decide (((to.length : Int) : Int) > (0 : Int))))]) (by kernel_rfl) ?_
  by_cases q13 : ((to.length : Int) : Int) > (0 : Int)
  rw [show (decide (((to.length : Int) : Int) > (0 : Int))) = true from decide_eq_true q13]
  refine ops_run1 (l' := [(0, .pointer (some ⟨b1, 0, none⟩)), (1, .pointer (some ⟨b2, 0, none⟩)), (17, .bool true), (18, .pointer (some ⟨b1, 1, none⟩))]) (by kernel_rfl) ?_
  refine ops_loadB (i := 1) (v := tv) (by kernel_rfl) (by kernel_rfl) (by kernel_rfl) (by kernel_rfl) h8 (by kernel_rfl) ?_
  refine ops_len (e := 9) (by kernel_rfl) (by kernel_rfl) (by kernel_rfl) (by kernel_rfl) h9 ?_
  refine ops_run3 (l' := [(0, .pointer (some ⟨b1, 0, none⟩)), (1, .pointer (some ⟨b2, 0, none⟩)), (23, .bool (decide (((to.length : Int) : Int) ≤ (100 : Int))))]) (by kernel_rfl) ?_
  by_cases q14 : ((to.length : Int) : Int) ≤ (100 : Int)
  rw [show (decide (((to.length : Int) : Int) ≤ (100 : Int))) = true from decide_eq_true q14]
  refine ops_run1 (l' := [(0, .pointer (some ⟨b1, 0, none⟩)), (1, .pointer (some ⟨b2, 0, none⟩)), (23, .bool true), (24, .pointer (some ⟨b1, 2, none⟩))]) (by kernel_rfl) ?_
  refine ops_loadB (i := 2) (v := .int .i64 at_) (by kernel_rfl) (by kernel_rfl) (by kernel_rfl) (by kernel_rfl) h8 (by kernel_rfl) ?_
  refine ops_run3 (l' := [(0, .pointer (some ⟨b1, 0, none⟩)), (1, .pointer (some ⟨b2, 0, none⟩)), (28, .bool (decide ((at_ : Int) ≥ (0 : Int))))]) (by kernel_rfl) ?_
  by_cases q15 : (at_ : Int) ≥ (0 : Int)
  rw [show (decide ((at_ : Int) ≥ (0 : Int))) = true from decide_eq_true q15]
  have h10 := hb2.keep0 c2 (by omega)
  refine ops_loadB (i := 0) (v := bv) (by kernel_rfl) (by kernel_rfl) (by kernel_rfl) (by kernel_rfl) h10 (by kernel_rfl) ?_
  have h11 := hb.keep0 c2 (by omega)
  refine ops_len (e := 5) (by kernel_rfl) (by kernel_rfl) (by kernel_rfl) (by kernel_rfl) h11 ?_
  refine ops_run2 (l' := [(0, .pointer (some ⟨b1, 0, none⟩)), (32, .bool (decide (((body.length : Int) : Int) ≤ (500000 : Int))))]) (by kernel_rfl) ?_
  refine ops_callp (by kernel_rfl) (by kernel_rfl) (by kernel_rfl) (entry_must (decide (((body.length : Int) : Int) ≤ (500000 : Int))) w9) ?_ ?_
  rintro _ w11 ⟨q16, rfl, hwq⟩
  rw [hwq]
  clear hwq w11
  replace q16 := of_decide_eq_true q16
  refine ops_nil (nx_seq (at_seq (at_region ?_)))
  refine ops_run1 (l' := [(34, .pointer (some ⟨b1, 1, none⟩))]) (by kernel_rfl) ?_
  refine ops_loadB (i := 1) (v := tv) (by kernel_rfl) (by kernel_rfl) (by kernel_rfl) (by kernel_rfl) h8 (by kernel_rfl) ?_
  refine ops_len (e := 9) (by kernel_rfl) (by kernel_rfl) (by kernel_rfl) (by kernel_rfl) h9 ?_
  refine ops_run1 (l' := [(35, tv), (36, .int .i64 ((to.length : Int))), (37, .int .i64 0)]) (by kernel_rfl) ?_
  refine ops_nil (nx_seq (at_block ?_))
  refine at_loop (X := Nat) (fun x_ => [(35, tv), (36, .int .i64 ((to.length : Int))), (37, .int .i64 ((x_ : Int)))]) (fun x_ W2 => Chg [] (w9.heap.size) w9 W2 ∧ (x_ ≤ to.length) ∧ (∀ q, q < x_ → mailboxP (to.getD q []))) (fun x_ => to.length - x_) 0 (proj_sub [35, 36, 37] (by kernel_rfl)) ⟨(Chg.refl [] w9), (show 0 ≤ to.length by first | omega | (simp only [List.length_append, List.length_cons, List.length_nil, List.length_take, List.length_drop, List.length_map]; omega)), (show ∀ q, q < 0 → mailboxP (to.getD q []) by intro q hq; omega)⟩ ?_
  rintro k w12 ⟨h12, h13, h14⟩
  replace h12 : Chg [] (w9.heap.size) w9 w12 := h12
  replace h13 : (k ≤ to.length) := h13
  replace h14 : (∀ q, q < k → mailboxP (to.getD q [])) := h14
  have z4 := h12.size
  have hall := h14
  refine at_seq (at_region ?_)
  refine ops_run1 (l' := [(35, tv), (36, .int .i64 ((to.length : Int))), (37, .int .i64 ((k : Int))), (38, .bool (decide (((k : Int) : Int) < ((to.length : Int) : Int))))]) (by kernel_rfl) ?_
  refine ops_nil (nx_seq (at_seq ?_))
  refine at_ifp (((k : Int) : Int) < ((to.length : Int) : Int)) (by kernel_rfl) (fun q17 => ?_) (fun q17 => ?_)
  refine at_skip (nx_seq (at_seq (at_block (at_seq (at_region ?_)))))
  have h15 := h9.keep0 h12 (by omega)
  refine ops_idx (e := 9) (i := (k : Int)) (kd := .i64) k (by kernel_rfl) (by kernel_rfl) (by kernel_rfl) (by kernel_rfl) (by kernel_rfl) (by kernel_rfl) h15 (by omega) (by first | omega | (simp only [List.length_append, List.length_cons, List.length_nil, List.length_take, List.length_drop, List.length_map]; omega)) (fun a2 h16 => ?_)
  have h17 := cell_sAt (l := to) (j := k) h16 (by omega)
  refine ops_load (by kernel_rfl) (by kernel_rfl) (by kernel_rfl) (by kernel_rfl) h17 ?_
  have hpl := hto (to.getD k []) (getD_mem (by omega))
  refine ops_run1 (l' := [(3, S (to.getD k [])), (35, tv), (36, .int .i64 ((to.length : Int))), (37, .int .i64 ((k : Int)))]) (by kernel_rfl) ?_
  refine ops_nil (nx_seq (at_region ?_))
  refine ops_run1 (l' := [(35, tv), (36, .int .i64 ((to.length : Int))), (37, .int .i64 ((k : Int))), (41, S (to.getD k []))]) (by kernel_rfl) ?_
  have h18 := hg.keep0 c2 (by omega)
  have h19 := h18.keep0 h12 (by omega)
  refine ops_callr (by kernel_rfl) (by kernel_rfl) (by kernel_rfl) (mailbox_ok (to.getD k []) (by first | omega | (simp only [List.length_append, List.length_cons, List.length_nil, List.length_take, List.length_drop, List.length_map]; omega)) w12 h19) ?_
  rintro _ w13 ⟨rfl, c3⟩
  have z5 := c3.size
  refine ops_callp (by kernel_rfl) (by kernel_rfl) (by kernel_rfl) (entry_must (decide (mailboxP (to.getD k []))) w13) ?_ ?_
  rintro _ w14 ⟨q18, rfl, hwq⟩
  rw [hwq]
  clear hwq w14
  replace q18 := of_decide_eq_true q18
  refine ops_nil (nx_blk (nx_seq (at_region ?_)))
  refine ops_add (a := (k : Int)) (b := 1) (kd := .i64) (by kernel_rfl) (by kernel_rfl) (by kernel_rfl) (by kernel_rfl) (show (-9223372036854775808 : Int) ≤ ((k : Int)) + 1 by omega) (show ((k : Int)) + 1 ≤ (9223372036854775807 : Int) by omega) ?_
  refine ops_run1 (l' := [(35, tv), (36, .int .i64 ((to.length : Int))), (37, .int .i64 (((k : Int)) + 1))]) (by kernel_rfl) ?_
  refine ops_nil ?_
  refine nx_round ((k) + 1) (proj_sub [35, 36, 37] (by kernel_rfl)) ⟨(((Chg.refl [] w9).step0 h12 (by omega)).step0 c3 (by omega)), (show ((k) + 1) ≤ to.length by first | omega | (simp only [List.length_append, List.length_cons, List.length_nil, List.length_take, List.length_drop, List.length_map]; omega)), (show ∀ q, q < ((k) + 1) → mailboxP (to.getD q []) by exact fun q hq => if e : q = k then (by rw [e]; assumption) else hall q (by omega))⟩ (show to.length - ((k) + 1) < to.length - k by omega)
  rintro ch w14 a ha ⟨q18, hch, hwq⟩
  rw [hwq]
  replace q18 := of_decide_eq_false q18
  exact out_panic ha (.inr ⟨_, rfl, hch, fun hk => (by rcases hk with ⟨⟨g1, g2, g3, g4⟩, g5, g6⟩; first | omega | (rcases g1 with g1 | g1 <;> contradiction) | (have := g4 (to.getD k []) (getD_mem (by omega)); contradiction)), ((((Chg.refl [] w).step0 c2 (by omega)).step0 h12 (by omega)).step0 c3 (by omega))⟩)
  refine at_exit (ex_seq (ex_inv (ex_here ?_)))
  refine nx_ret (rs := []) (vs := []) rfl (by kernel_rfl) ?_
  exact .inl ⟨_, rfl, ⟨⟨by first | exact .inl (by assumption) | exact .inr (by assumption), by omega, by omega, all_of_getD (d := []) (fun q hq => hall q (by omega))⟩, by omega, by omega⟩, (((Chg.refl [] w).step0 c2 (by omega)).step0 h12 (by omega))⟩
  rintro ch w11 a ha ⟨q16, hch, hwq⟩
  rw [hwq]
  replace q16 := of_decide_eq_false q16
  exact out_panic ha (.inr ⟨_, rfl, hch, fun hk => (by rcases hk with ⟨⟨g1, g2, g3, g4⟩, g5, g6⟩; first | omega | (rcases g1 with g1 | g1 <;> contradiction) | (have := g4 (to.getD k []) (getD_mem (by omega)); contradiction)), ((Chg.refl [] w).step0 c2 (by omega))⟩)
  rw [show (decide ((at_ : Int) ≥ (0 : Int))) = false from decide_eq_false q15]
  refine ops_run4 (l' := [(0, .pointer (some ⟨b1, 0, none⟩)), (32, .bool false)]) (by kernel_rfl) ?_
  refine ops_callp (by kernel_rfl) (by kernel_rfl) (by kernel_rfl) (entry_must (false) w9) (fun v w' h => by cases h.1) ?_
  rintro ch w15 a ha ⟨q19, hch, hwq⟩
  rw [hwq]
  exact out_panic ha (.inr ⟨_, rfl, hch, fun hk => (by rcases hk with ⟨⟨g1, g2, g3, g4⟩, g5, g6⟩; first | omega | (rcases g1 with g1 | g1 <;> contradiction) | (have := g4 (to.getD k []) (getD_mem (by omega)); contradiction)), ((Chg.refl [] w).step0 c2 (by omega))⟩)
  rw [show (decide (((to.length : Int) : Int) ≤ (100 : Int))) = false from decide_eq_false q14]
  refine ops_run9 (l' := [(0, .pointer (some ⟨b1, 0, none⟩)), (32, .bool false)]) (by kernel_rfl) ?_
  refine ops_callp (by kernel_rfl) (by kernel_rfl) (by kernel_rfl) (entry_must (false) w9) (fun v w' h => by cases h.1) ?_
  rintro ch w16 a ha ⟨q20, hch, hwq⟩
  rw [hwq]
  exact out_panic ha (.inr ⟨_, rfl, hch, fun hk => (by rcases hk with ⟨⟨g1, g2, g3, g4⟩, g5, g6⟩; first | omega | (rcases g1 with g1 | g1 <;> contradiction) | (have := g4 (to.getD k []) (getD_mem (by omega)); contradiction)), ((Chg.refl [] w).step0 c2 (by omega))⟩)
  rw [show (decide (((to.length : Int) : Int) > (0 : Int))) = false from decide_eq_false q13]
  refine ops_run15 (l' := [(0, .pointer (some ⟨b1, 0, none⟩)), (32, .bool false)]) (by kernel_rfl) ?_
  refine ops_callp (by kernel_rfl) (by kernel_rfl) (by kernel_rfl) (entry_must (false) w9) (fun v w' h => by cases h.1) ?_
  rintro ch w17 a ha ⟨q21, hch, hwq⟩
  rw [hwq]
  exact out_panic ha (.inr ⟨_, rfl, hch, fun hk => (by rcases hk with ⟨⟨g1, g2, g3, g4⟩, g5, g6⟩; first | omega | (rcases g1 with g1 | g1 <;> contradiction) | (have := g4 (to.getD k []) (getD_mem (by omega)); contradiction)), ((Chg.refl [] w).step0 c2 (by omega))⟩)
  rintro ch w10 a ha ⟨q12, hch, hwq⟩
  rw [hwq]
  replace q12 := of_decide_eq_false q12
  exact out_panic ha (.inr ⟨_, rfl, hch, fun hk => (by rcases hk with ⟨⟨g1, g2, g3, g4⟩, g5, g6⟩; first | omega | (rcases g1 with g1 | g1 <;> contradiction) | (have := g4 (to.getD k []) (getD_mem (by omega)); contradiction)), ((Chg.refl [] w).step0 c2 (by omega))⟩)
theorem check_ok (fr : Bytes) (to : List Bytes) (at_ : Int) {w : World} {lo hi : Nat} {tv : Value} (ht : Ss w lo hi tv to) (body : Bytes) {lo2 hi2 : Nat} {bv : Value} (hb : Bs w lo2 hi2 bv body) (hfr : fr.length < 4294967281) (hto : ∀ s, s ∈ to → s.length < 4294967281) (hg : Gl w) :
    Pu Tryd.prog 32 #[.agg #[S fr, tv, .int .i64 at_], bv] w (.int .i64 (if checkP fr to at_ body then 0 else 150)) := by
  have hhi := ht.hi_le
  have hhb := hb.hi_le
  have hgs := hg.size
  refine enter (n := 7) (args := [.agg #[S fr, tv, .int .i64 at_], bv]) Tryd.func32 rfl rfl (Nat.le_of_ble_eq_true (by kernel_rfl)) ?_
  refine at_seq (at_region ?_)
  refine ops_box (cs := [S fr, tv, .int .i64 at_]) (by kernel_rfl) (by kernel_rfl) (by kernel_rfl) (fun b1 w1 e1 h1 c1 z1 => ?_)
  have z2 := c1.size
  have h3 := hb.keep0 c1 (by omega)
  refine ops_box (cs := [bv]) (by kernel_rfl) (by kernel_rfl) (cells_opq (v := bv) (by kernel_rfl) h3.cells1) (fun b2 w2 e2 h2 c2 z3 => ?_)
  have z4 := c2.size
  refine ops_run1 (l' := [(2, .pointer (some ⟨b1, 0, none⟩)), (3, .pointer (some ⟨b2, 0, none⟩)), (4, .int .i64 0)]) (by kernel_rfl) ?_
  refine ops_nil (nx_seq (at_seq (at_region ?_)))
  refine ops_run1 (l' := [(4, .int .i64 0), (5, .func (.func 84) #[] #[.pointer (some ⟨b1, 0, none⟩), .pointer (some ⟨b2, 0, none⟩)])]) (by kernel_rfl) ?_
  have h4 := ht.keep0 c1 (by omega)
  have h5 := h4.keep0 c2 (by omega)
  have h6 := h3.keep0 c2 (by omega)
  have h7 := hg.keep0 c1 (by omega)
  have h8 := h7.keep0 c2 (by omega)
  have h9 := h1.keep0 c2 (by omega)
  refine ops_callr (by kernel_rfl) (by kernel_rfl) (by kernel_rfl) (entry_caught 84 [.pointer (some ⟨b1, 0, none⟩), .pointer (some ⟨b2, 0, none⟩)] (fun _ _ => rfl) (fun W => checkP fr to at_ body) (fun W => ¬ checkP fr to at_ body) [] w2 (by intro y hy; simp only [List.mem_cons, List.not_mem_nil, or_false] at hy <;> omega) (fun W1 C1 Z1 => (check1_ok fr to at_ (h5.keep0 C1 (by omega)) body (h6.keep0 C1 (by omega)) hfr hto (h8.keep0 C1 (by omega)) (h9.keep0 C1 (by omega)) (h2.keep0 C1 (by omega))).mono (fun v w2 h => h) (fun ch w2 h => h))) ?_
  rintro _ w5 ⟨w3, w4, c3, c4, c5, (⟨rfl, h10⟩ | ⟨rfl, h10⟩)⟩
  have z5 := c3.size
  have z6 := c4.size
  have hR := h10
  have z7 := c5.size
  refine ops_run1 (l' := [(4, .int .i64 0)]) (by kernel_rfl) ?_
  refine ops_nil (nx_seq ?_)
  refine at_ret (rs := [.tmp 4]) (vs := [.int .i64 0]) rfl (by kernel_rfl) ?_
  exact ⟨_, rfl, (by first | exact congrArg (Value.int .i64) (if_pos hR).symm | exact congrArg (Value.int .i64) (if_neg hR).symm), ((((((Chg.refl [] w).step0 c1 (by omega)).step0 c2 (by omega)).step0 c3 (by omega)).step0 c4 (by omega)).step c5 (by omega) (by intro y hy; simp only [List.mem_cons, List.not_mem_nil, or_false, false_or] at hy ⊢; try omega))⟩
  have z8 := c3.size
  have z9 := c4.size
  have hR := h10
  have z10 := c5.size
  refine ops_run1 (l' := [(4, .int .i64 150)]) (by kernel_rfl) ?_
  refine ops_nil (nx_seq ?_)
  refine at_ret (rs := [.tmp 4]) (vs := [.int .i64 150]) rfl (by kernel_rfl) ?_
  exact ⟨_, rfl, (by first | exact congrArg (Value.int .i64) (if_pos hR).symm | exact congrArg (Value.int .i64) (if_neg hR).symm), ((((((Chg.refl [] w).step0 c1 (by omega)).step0 c2 (by omega)).step0 c3 (by omega)).step0 c4 (by omega)).step c5 (by omega) (by intro y hy; simp only [List.mem_cons, List.not_mem_nil, or_false, false_or] at hy ⊢; try omega))⟩
theorem enumber_ok (n : Int) (h0 : -9223372036854775808 ≤ n) (h1 : n ≤ 9223372036854775807) (w : World) (hg : Gl w) : Rt Tryd.prog 91 #[.int .i64 n] w fun v w' => OwnB w' w.heap.size v (Lib.itoa n) ∧ Chg [] w.heap.size w w' := by
  have hgs := hg.size
  refine enter (n := 5) (args := [.int .i64 n]) Tryd.func91 rfl rfl (Nat.le_of_ble_eq_true (by kernel_rfl)) ?_
  refine at_seq (at_region ?_)
  refine ops_run1 (l' := [(0, .int .i64 n), (2, .slice none 0 0)]) (by kernel_rfl) ?_
  refine ops_nil (nx_seq (at_seq (at_region ?_)))
  refine ops_run1 (l' := [(2, .slice none 0 0), (3, .int .i64 n)]) (by kernel_rfl) ?_
  have il1 := itoa_len (n) (by omega) (by omega)
  refine ops_callr (by kernel_rfl) (by kernel_rfl) (by kernel_rfl) (strconv_AppendInt_ok (OwnR.nil w w.heap.size 5) (by omega) (by omega) hg (n) (by omega) (by omega) (by first | omega | (simp only [List.length_append, List.length_cons, List.length_nil, List.length_take, List.length_drop, List.length_map]; omega))) ?_
  rintro v1 w1 ⟨h1, c1⟩
  have z1 := c1.size
  refine ops_run1 (l' := [(2, v1)]) (by kernel_rfl) ?_
  refine ops_nil (nx_seq ?_)
  refine at_ret (rs := [.tmp 2]) (vs := [v1]) rfl (by kernel_rfl) ?_
  exact ⟨_, rfl, h1.own (by omega), ((Chg.refl [] w).step0 c1 (by omega))⟩
theorem encode1_ok {w : World} (m : Msg) {lo hi : Nat} {tv : Value} (ht : Ss w lo hi tv m.to) {lo2 hi2 : Nat} {bv : Value} (hb : Bs w lo2 hi2 bv m.body) (hfr : m.fr.length < 4294967281) (hto : ∀ s, s ∈ m.to → s.length < 4294967281) (hcl : m.cls.length < 4294967281) (hid : m.id ≤ 9223372036854775807) (hat : m.at_ ≤ 9223372036854775807) (hg : Gl w) {b1 b2 : Nat} {u0 : Value} (hb1 : Blk w b1 [.int .i64 m.id, S m.cls, S m.fr, tv, .int .i64 m.at_, bv] 28) (hb2 : Blk w b2 [u0] 22) (hne : b1 ≠ b2) :
    Rp Tryd.prog 89 [.pointer (some ⟨b1, 0, none⟩), .pointer (some ⟨b2, 0, none⟩)].toArray w (fun _ w2 => (msgP m ∧ ∃ v, Blk w2 b2 [v] 22 ∧ Bs w2 w.heap.size w2.heap.size v (putL (partsM m))) ∧ Chg [b2] w.heap.size w w2) (fun ch w2 => ch = thrown 121 ∧ (¬ msgP m ∧ Blk w2 b2 [u0] 22) ∧ Chg [b2] w.heap.size w w2) := by
  have hhi := ht.hi_le
  have hhb := hb.hi_le
  have htl := ht.len_le
  have hbl := hb.len_le
  have hgs := hg.size
  have hl1 := hb1.lt
  have hl2 := hb2.lt
  refine enter (n := 70) (args := [.pointer (some ⟨b1, 0, none⟩), .pointer (some ⟨b2, 0, none⟩)]) Tryd.func89 rfl rfl (Nat.le_of_ble_eq_true (by kernel_rfl)) ?_
  refine at_seq (at_region ?_)
  refine ops_run1 (l' := [(0, .pointer (some ⟨b1, 0, none⟩)), (1, .pointer (some ⟨b2, 0, none⟩)), (6, .pointer (some ⟨b1, 2, none⟩))]) (by kernel_rfl) ?_
  refine ops_loadS (i := 2) (vs := [S m.fr, tv, .int .i64 m.at_]) 3 (by kernel_rfl) (by kernel_rfl) (by kernel_rfl) (by kernel_rfl) (by kernel_rfl) hb1 (by kernel_rfl) (by kernel_rfl) ?_
  refine ops_run1 (l' := [(0, .pointer (some ⟨b1, 0, none⟩)), (1, .pointer (some ⟨b2, 0, none⟩)), (7, .agg #[S m.fr, tv, .int .i64 m.at_]), (8, .pointer (some ⟨b1, 5, none⟩))]) (by kernel_rfl) ?_
  refine ops_loadB (i := 5) (v := bv) (by kernel_rfl) (by kernel_rfl) (by kernel_rfl) (by kernel_rfl) hb1 (by kernel_rfl) ?_
  refine ops_callr (by kernel_rfl) (by kernel_rfl) (by kernel_rfl) (check_ok m.fr m.to (m.at_) ht m.body hb (by exact hfr) (by exact hto) hg) ?_
  rintro _ w1 ⟨rfl, c1⟩
  have z1 := c1.size
  by_cases q1 : checkP m.fr m.to (m.at_) m.body
  rw [if_pos q1]
  have hck := q1
  have hat0 : 0 ≤ m.at_ := q1.1.2.2.1
  refine ops_run1 (l' := [(0, .pointer (some ⟨b1, 0, none⟩)), (1, .pointer (some ⟨b2, 0, none⟩)), (11, .bool true)]) (by kernel_rfl) ?_
  refine ops_callp (by kernel_rfl) (by kernel_rfl) (by kernel_rfl) (entry_must true w1) ?_ (fun ch w' a ha h => by cases h.1)
  rintro _ w2 ⟨_, rfl, hwq⟩
  rw [hwq]
  clear hwq w2
  refine ops_nil (nx_seq (at_seq (at_region ?_)))
  refine ops_run1 (l' := [(0, .pointer (some ⟨b1, 0, none⟩)), (1, .pointer (some ⟨b2, 0, none⟩)), (13, .pointer (some ⟨b1, 0, none⟩))]) (by kernel_rfl) ?_
  have h1 := hb1.keep0 c1 (by omega)
  refine ops_loadB (i := 0) (v := .int .i64 m.id) (by kernel_rfl) (by kernel_rfl) (by kernel_rfl) (by kernel_rfl) h1 (by kernel_rfl) ?_
  refine ops_run2 (l' := [(0, .pointer (some ⟨b1, 0, none⟩)), (1, .pointer (some ⟨b2, 0, none⟩)), (16, .bool (decide ((m.id : Int) ≥ (1 : Int))))]) (by kernel_rfl) ?_
  by_cases q3 : (m.id : Int) ≥ (1 : Int)
  rw [show (decide ((m.id : Int) ≥ (1 : Int))) = true from decide_eq_true q3]
  refine ops_run1 (l' := [(0, .pointer (some ⟨b1, 0, none⟩)), (1, .pointer (some ⟨b2, 0, none⟩)), (16, .bool true), (17, .pointer (some ⟨b1, 0, none⟩))]) (by kernel_rfl) ?_
  refine ops_loadB (i := 0) (v := .int .i64 m.id) (by kernel_rfl) (by kernel_rfl) (by kernel_rfl) (by kernel_rfl) h1 (by kernel_rfl) ?_
  refine ops_run3 (l' := [(0, .pointer (some ⟨b1, 0, none⟩)), (1, .pointer (some ⟨b2, 0, none⟩)), (21, .bool (decide ((m.id : Int) ≤ (1099511627776 : Int))))]) (by kernel_rfl) ?_
  by_cases q4 : (m.id : Int) ≤ (1099511627776 : Int)
  rw [show (decide ((m.id : Int) ≤ (1099511627776 : Int))) = true from decide_eq_true q4]
  refine ops_run1 (l' := [(0, .pointer (some ⟨b1, 0, none⟩)), (1, .pointer (some ⟨b2, 0, none⟩)), (21, .bool true), (22, .pointer (some ⟨b1, 1, none⟩))]) (by kernel_rfl) ?_
  refine ops_loadB (i := 1) (v := S m.cls) (by kernel_rfl) (by kernel_rfl) (by kernel_rfl) (by kernel_rfl) h1 (by kernel_rfl) ?_
  refine ops_callr (by kernel_rfl) (by kernel_rfl) (by kernel_rfl) (letters_ok m.cls (by first | omega | (simp only [List.length_append, List.length_cons, List.length_nil, List.length_take, List.length_drop, List.length_map]; omega)) w1) ?_
  rintro _ w3 ⟨rfl, c2⟩
  have z2 := c2.size
  refine ops_run1 (l' := [(0, .pointer (some ⟨b1, 0, none⟩)), (1, .pointer (some ⟨b2, 0, none⟩)), (25, .bool (decide (smallP m.cls 20)))]) (by kernel_rfl) ?_
  refine ops_callp (by kernel_rfl) (by kernel_rfl) (by kernel_rfl) (entry_must (decide (smallP m.cls 20)) w3) ?_ ?_
  rintro _ w4 ⟨q5, rfl, hwq⟩
  rw [hwq]
  clear hwq w4
  replace q5 := of_decide_eq_true q5
  refine ops_nil (nx_seq (at_seq (at_region ?_)))
  refine ops_run1 (l' := [(0, .pointer (some ⟨b1, 0, none⟩)), (1, .pointer (some ⟨b2, 0, none⟩)), (2, .func (.func 91) #[] #[])]) (by kernel_rfl) ?_
  refine ops_nil (nx_seq ?_)
  refine at_cut (X := Value) (fun x_ => [(0, .pointer (some ⟨b1, 0, none⟩)), (1, .pointer (some ⟨b2, 0, none⟩)), (3, x_)]) (fun x_ W1 => Chg [] (w3.heap.size) w3 W1 ∧ OwnBB W1 w.heap.size x_ [Lib.itoa (m.id), m.cls, m.fr, Lib.itoa (m.at_), Lib.itoa (m.to.length : Int)]) ?_ ?_
  have h2 := h1.keep0 c2 (by omega)
  have h3 := hb2.keep0 c1 (by omega)
  have h4 := h3.keep0 c2 (by omega)
  refine at_draw (m := 24) (listed := (bm 24 0)) (fun W => Blk W b1 [.int .i64 m.id, S m.cls, S m.fr, tv, .int .i64 m.at_, bv] 28 ∧ Blk W b2 [u0] 22 ∧ True) (by kernel_rfl) (by kernel_rfl) (by kernel_rfl) (fun w5 c3 z3 _ _ => ?_)
  have z4 := c3.size
  have h5 := h2.keep0 c3 (by omega)
  have h6 := h4.keep0 c3 (by omega)
  refine ⟨⟨h5, h6, trivial⟩, ?_⟩
  refine any_share (X := Value × Nat × Nat × Value × Nat × Nat × Value × Nat × Nat × Value × Nat × Nat × Value × Nat × Nat) (fun x_ => [(0, .pointer (some ⟨b1, 0, none⟩)), (1, .pointer (some ⟨b2, 0, none⟩)), (30, x_.1), (33, x_.2.2.2.1), (37, x_.2.2.2.2.2.2.1), (42, x_.2.2.2.2.2.2.2.2.2.1), (48, x_.2.2.2.2.2.2.2.2.2.2.2.2.1)]) (fun x_ W2 => Chg [] w5.heap.size w5 W2 ∧ Bs W2 x_.2.1 x_.2.2.1 x_.1 (Lib.itoa (m.id)) ∧ Bs W2 x_.2.2.2.2.1 x_.2.2.2.2.2.1 x_.2.2.2.1 m.cls ∧ Bs W2 x_.2.2.2.2.2.2.2.1 x_.2.2.2.2.2.2.2.2.1 x_.2.2.2.2.2.2.1 m.fr ∧ Bs W2 x_.2.2.2.2.2.2.2.2.2.2.1 x_.2.2.2.2.2.2.2.2.2.2.2.1 x_.2.2.2.2.2.2.2.2.2.1 (Lib.itoa (m.at_)) ∧ Bs W2 x_.2.2.2.2.2.2.2.2.2.2.2.2.2.1 x_.2.2.2.2.2.2.2.2.2.2.2.2.2.2 x_.2.2.2.2.2.2.2.2.2.2.2.2.1 (Lib.itoa ((m.to.length : Int)))) 2 (bm 24 4194303) ?_ (fun hs1 => ?_)
  rintro ⟨y1, y1l, y1h, y2, y2l, y2h, y3, y3l, y3h, y4, y4l, y4h, y5, y5l, y5h⟩ w6 ⟨h7, h8, h9, h10, h11, h12⟩
  replace h7 : Chg [] w5.heap.size w5 w6 := h7
  replace h8 : Bs w6 y1l y1h y1 (Lib.itoa (m.id)) := h8
  replace h9 : Bs w6 y2l y2h y2 m.cls := h9
  replace h10 : Bs w6 y3l y3h y3 m.fr := h10
  replace h11 : Bs w6 y4l y4h y4 (Lib.itoa (m.at_)) := h11
  replace h12 : Bs w6 y5l y5h y5 (Lib.itoa ((m.to.length : Int))) := h12
  have z5 := h7.size
  have z6 := h8.hi_le
  have z7 := h9.hi_le
  have z8 := h10.hi_le
  have z9 := h11.hi_le
  have z10 := h12.hi_le
  refine any_1 22 (bm 24 8388607) (by kernel_rfl) rfl (by kernel_rfl) ?_
  refine ops_litV (e := 22) [y1, y2, y3, y4, y5] (by kernel_rfl) (by kernel_rfl) (by kernel_rfl) (by kernel_rfl) (by intro v hv; simp only [List.mem_cons, List.not_mem_nil, or_false] at hv; rcases hv with rfl | rfl | rfl | rfl | rfl <;> first | exact h8.cells1 | exact h9.cells1 | exact h10.cells1 | exact h11.cells1 | exact h12.cells1) rfl (by decide) (fun v1 w7 h13 c4 z11 => ?_)
  have z12 := c4.size
  have h14 : OwnBB w7 (w6.heap.size) v1 [Lib.itoa (m.id), m.cls, m.fr, Lib.itoa (m.at_), Lib.itoa ((m.to.length : Int))] := ownBB_lit rfl h13 c4 ⟨ElB.of h8 h8.hi_le (by simp), ⟨ElB.of h9 h9.hi_le (by simp), ⟨ElB.of h10 h10.hi_le (by simp), ⟨ElB.of h11 h11.hi_le (by simp), ⟨ElB.of h12 h12.hi_le (by simp), trivial⟩⟩⟩⟩⟩
  refine ops_nil ?_
  have h15 := h5.keep0 h7 (by omega)
  have h16 := h15.keep0 c4 (by omega)
  have h17 := h6.keep0 h7 (by omega)
  have h18 := h17.keep0 c4 (by omega)
  refine nx_any ⟨h16, h18, trivial⟩ ?_
  refine any_takes [23] (fuel' := 0) (listed' := (bm 24 16777215)) (l' := [(0, .pointer (some ⟨b1, 0, none⟩)), (1, .pointer (some ⟨b2, 0, none⟩)), (3, v1)]) panK_FB (by kernel_rfl) (by kernel_rfl) (by kernel_rfl) ?_
  refine any_done (by kernel_rfl) ?_
  exact nx_meet v1 (proj_sub [0, 1, 3] (by kernel_rfl)) ⟨((((Chg.refl [] w3).step0 c3 (by omega)).step0 h7 (by omega)).step0 c4 (by omega)), (h14.down (by omega))⟩
  refine any_share (X := Value × Nat × Nat × Value × Nat × Nat × Value × Nat × Nat × Value × Nat × Nat) (fun x_ => [(0, .pointer (some ⟨b1, 0, none⟩)), (1, .pointer (some ⟨b2, 0, none⟩)), (30, x_.1), (33, x_.2.2.2.1), (37, x_.2.2.2.2.2.2.1), (42, x_.2.2.2.2.2.2.2.2.2.1), (43, .func (.func 91) #[] #[]), (47, .int .i64 ((m.to.length : Int)))]) (fun x_ W3 => Chg [] w5.heap.size w5 W3 ∧ Bs W3 x_.2.1 x_.2.2.1 x_.1 (Lib.itoa (m.id)) ∧ Bs W3 x_.2.2.2.2.1 x_.2.2.2.2.2.1 x_.2.2.2.1 m.cls ∧ Bs W3 x_.2.2.2.2.2.2.2.1 x_.2.2.2.2.2.2.2.2.1 x_.2.2.2.2.2.2.1 m.fr ∧ Bs W3 x_.2.2.2.2.2.2.2.2.2.2.1 x_.2.2.2.2.2.2.2.2.2.2.2 x_.2.2.2.2.2.2.2.2.2.1 (Lib.itoa (m.at_))) 3 (bm 24 2097151) ?_ (fun hs2 => ?_)
  rintro ⟨y6, y6l, y6h, y7, y7l, y7h, y8, y8l, y8h, y9, y9l, y9h⟩ w8 ⟨h19, h20, h21, h22, h23⟩
  replace h19 : Chg [] w5.heap.size w5 w8 := h19
  replace h20 : Bs w8 y6l y6h y6 (Lib.itoa (m.id)) := h20
  replace h21 : Bs w8 y7l y7h y7 m.cls := h21
  replace h22 : Bs w8 y8l y8h y8 m.fr := h22
  replace h23 : Bs w8 y9l y9h y9 (Lib.itoa (m.at_)) := h23
  have z13 := h19.size
  have z14 := h20.hi_le
  have z15 := h21.hi_le
  have z16 := h22.hi_le
  have z17 := h23.hi_le
  refine any_1 21 (bm 24 4194303) (by kernel_rfl) rfl (by kernel_rfl) ?_
  have h25 := hg.keep0 c1 (by omega)
  have h26 := h25.keep0 c2 (by omega)
  have h27 := h26.keep0 c3 (by omega)
  have h28 := h27.keep0 h19 (by omega)
  refine ops_callr (by kernel_rfl) (by kernel_rfl) (by kernel_rfl) (enumber_ok ((m.to.length : Int)) (by omega) (by omega) w8 h28) ?_
  rintro v2 w9 ⟨h24, c5⟩
  have z18 := c5.size
  refine ops_nil ?_
  have h29 := h5.keep0 h19 (by omega)
  have h30 := h29.keep0 c5 (by omega)
  have h31 := h6.keep0 h19 (by omega)
  have h32 := h31.keep0 c5 (by omega)
  refine nx_any ⟨h30, h32, trivial⟩ ?_
  have h33 := h20.keep0 c5 (by omega)
  have h34 := h21.keep0 c5 (by omega)
  have h35 := h22.keep0 c5 (by omega)
  have h36 := h23.keep0 c5 (by omega)
  exact any_use hs1 (y6, y6l, y6h, y7, y7l, y7h, y8, y8l, y8h, y9, y9l, y9h, v2, w8.heap.size, w9.heap.size) (proj_sub [0, 1, 30, 33, 37, 42, 48] (by kernel_rfl)) ⟨(((Chg.refl [] w5).step0 h19 (by omega)).step0 c5 (by omega)), h33, h34, h35, h36, h24.sl⟩
  refine any_share (X := Value × Nat × Nat × Value × Nat × Nat × Value × Nat × Nat × Value × Nat × Nat) (fun x_ => [(0, .pointer (some ⟨b1, 0, none⟩)), (1, .pointer (some ⟨b2, 0, none⟩)), (30, x_.1), (33, x_.2.2.2.1), (36, S m.fr), (42, x_.2.2.2.2.2.2.1), (48, x_.2.2.2.2.2.2.2.2.2.1)]) (fun x_ W4 => Chg [] w5.heap.size w5 W4 ∧ Bs W4 x_.2.1 x_.2.2.1 x_.1 (Lib.itoa (m.id)) ∧ Bs W4 x_.2.2.2.2.1 x_.2.2.2.2.2.1 x_.2.2.2.1 m.cls ∧ Bs W4 x_.2.2.2.2.2.2.2.1 x_.2.2.2.2.2.2.2.2.1 x_.2.2.2.2.2.2.1 (Lib.itoa (m.at_)) ∧ Bs W4 x_.2.2.2.2.2.2.2.2.2.2.1 x_.2.2.2.2.2.2.2.2.2.2.2 x_.2.2.2.2.2.2.2.2.2.1 (Lib.itoa ((m.to.length : Int)))) 3 (bm 24 4193279) ?_ (fun hs3 => ?_)
  rintro ⟨y10, y10l, y10h, y11, y11l, y11h, y12, y12l, y12h, y13, y13l, y13h⟩ w10 ⟨h37, h38, h39, h40, h41⟩
  replace h37 : Chg [] w5.heap.size w5 w10 := h37
  replace h38 : Bs w10 y10l y10h y10 (Lib.itoa (m.id)) := h38
  replace h39 : Bs w10 y11l y11h y11 m.cls := h39
  replace h40 : Bs w10 y12l y12h y12 (Lib.itoa (m.at_)) := h40
  replace h41 : Bs w10 y13l y13h y13 (Lib.itoa ((m.to.length : Int))) := h41
  have z19 := h37.size
  have z20 := h38.hi_le
  have z21 := h39.hi_le
  have z22 := h40.hi_le
  have z23 := h41.hi_le
  refine any_1 10 (bm 24 4194303) (by kernel_rfl) rfl (by kernel_rfl) ?_
  refine ops_toB (b := m.fr) (by kernel_rfl) (by kernel_rfl) (by kernel_rfl) (by kernel_rfl) (by kernel_rfl) (by first | omega | (simp only [List.length_append, List.length_cons, List.length_nil, List.length_take, List.length_drop, List.length_map]; omega)) (fun v3 w11 h42 c6 z24 => ?_)
  have z25 := c6.size
  refine ops_nil ?_
  have h43 := h5.keep0 h37 (by omega)
  have h44 := h43.keep0 c6 (by omega)
  have h45 := h6.keep0 h37 (by omega)
  have h46 := h45.keep0 c6 (by omega)
  refine nx_any ⟨h44, h46, trivial⟩ ?_
  have h47 := h38.keep0 c6 (by omega)
  have h48 := h39.keep0 c6 (by omega)
  have h49 := h40.keep0 c6 (by omega)
  have h50 := h41.keep0 c6 (by omega)
  exact any_use hs1 (y10, y10l, y10h, y11, y11l, y11h, v3, w10.heap.size, w11.heap.size, y12, y12l, y12h, y13, y13l, y13h) (proj_sub [0, 1, 30, 33, 37, 42, 48] (by kernel_rfl)) ⟨(((Chg.refl [] w5).step0 h37 (by omega)).step0 c6 (by omega)), h47, h48, h42.sl, h49, h50⟩
  refine any_share (X := Value × Nat × Nat × Value × Nat × Nat × Value × Nat × Nat × Value × Nat × Nat) (fun x_ => [(0, .pointer (some ⟨b1, 0, none⟩)), (1, .pointer (some ⟨b2, 0, none⟩)), (30, x_.1), (32, S m.cls), (37, x_.2.2.2.1), (42, x_.2.2.2.2.2.2.1), (48, x_.2.2.2.2.2.2.2.2.2.1)]) (fun x_ W5 => Chg [] w5.heap.size w5 W5 ∧ Bs W5 x_.2.1 x_.2.2.1 x_.1 (Lib.itoa (m.id)) ∧ Bs W5 x_.2.2.2.2.1 x_.2.2.2.2.2.1 x_.2.2.2.1 m.fr ∧ Bs W5 x_.2.2.2.2.2.2.2.1 x_.2.2.2.2.2.2.2.2.1 x_.2.2.2.2.2.2.1 (Lib.itoa (m.at_)) ∧ Bs W5 x_.2.2.2.2.2.2.2.2.2.2.1 x_.2.2.2.2.2.2.2.2.2.2.2 x_.2.2.2.2.2.2.2.2.2.1 (Lib.itoa ((m.to.length : Int)))) 3 (bm 24 4194239) ?_ (fun hs4 => ?_)
  rintro ⟨y14, y14l, y14h, y15, y15l, y15h, y16, y16l, y16h, y17, y17l, y17h⟩ w12 ⟨h51, h52, h53, h54, h55⟩
  replace h51 : Chg [] w5.heap.size w5 w12 := h51
  replace h52 : Bs w12 y14l y14h y14 (Lib.itoa (m.id)) := h52
  replace h53 : Bs w12 y15l y15h y15 m.fr := h53
  replace h54 : Bs w12 y16l y16h y16 (Lib.itoa (m.at_)) := h54
  replace h55 : Bs w12 y17l y17h y17 (Lib.itoa ((m.to.length : Int))) := h55
  have z26 := h51.size
  have z27 := h52.hi_le
  have z28 := h53.hi_le
  have z29 := h54.hi_le
  have z30 := h55.hi_le
  refine any_1 6 (bm 24 4194303) (by kernel_rfl) rfl (by kernel_rfl) ?_
  refine ops_toB (b := m.cls) (by kernel_rfl) (by kernel_rfl) (by kernel_rfl) (by kernel_rfl) (by kernel_rfl) (by first | omega | (simp only [List.length_append, List.length_cons, List.length_nil, List.length_take, List.length_drop, List.length_map]; omega)) (fun v4 w13 h56 c7 z31 => ?_)
  have z32 := c7.size
  refine ops_nil ?_
  have h57 := h5.keep0 h51 (by omega)
  have h58 := h57.keep0 c7 (by omega)
  have h59 := h6.keep0 h51 (by omega)
  have h60 := h59.keep0 c7 (by omega)
  refine nx_any ⟨h58, h60, trivial⟩ ?_
  have h61 := h52.keep0 c7 (by omega)
  have h62 := h53.keep0 c7 (by omega)
  have h63 := h54.keep0 c7 (by omega)
  have h64 := h55.keep0 c7 (by omega)
  exact any_use hs1 (y14, y14l, y14h, v4, w12.heap.size, w13.heap.size, y15, y15l, y15h, y16, y16l, y16h, y17, y17l, y17h) (proj_sub [0, 1, 30, 33, 37, 42, 48] (by kernel_rfl)) ⟨(((Chg.refl [] w5).step0 h51 (by omega)).step0 c7 (by omega)), h61, h56.sl, h62, h63, h64⟩
  refine any_share (X := Value × Nat × Nat × Value × Nat × Nat × Value × Nat × Nat) (fun x_ => [(0, .pointer (some ⟨b1, 0, none⟩)), (1, .pointer (some ⟨b2, 0, none⟩)), (30, x_.1), (33, x_.2.2.2.1), (37, x_.2.2.2.2.2.2.1), (38, .func (.func 91) #[] #[]), (41, .int .i64 m.at_), (43, .func (.func 91) #[] #[]), (47, .int .i64 ((m.to.length : Int)))]) (fun x_ W6 => Chg [] w5.heap.size w5 W6 ∧ Bs W6 x_.2.1 x_.2.2.1 x_.1 (Lib.itoa (m.id)) ∧ Bs W6 x_.2.2.2.2.1 x_.2.2.2.2.2.1 x_.2.2.2.1 m.cls ∧ Bs W6 x_.2.2.2.2.2.2.2.1 x_.2.2.2.2.2.2.2.2 x_.2.2.2.2.2.2.1 m.fr) 4 (bm 24 2064383) ?_ (fun hs5 => ?_)
  rintro ⟨y18, y18l, y18h, y19, y19l, y19h, y20, y20l, y20h⟩ w14 ⟨h65, h66, h67, h68⟩
  replace h65 : Chg [] w5.heap.size w5 w14 := h65
  replace h66 : Bs w14 y18l y18h y18 (Lib.itoa (m.id)) := h66
  replace h67 : Bs w14 y19l y19h y19 m.cls := h67
  replace h68 : Bs w14 y20l y20h y20 m.fr := h68
  have z33 := h65.size
  have z34 := h66.hi_le
  have z35 := h67.hi_le
  have z36 := h68.hi_le
  refine any_1 15 (bm 24 2097151) (by kernel_rfl) rfl (by kernel_rfl) ?_
  have h70 := hg.keep0 c1 (by omega)
  have h71 := h70.keep0 c2 (by omega)
  have h72 := h71.keep0 c3 (by omega)
  have h73 := h72.keep0 h65 (by omega)
  refine ops_callr (by kernel_rfl) (by kernel_rfl) (by kernel_rfl) (enumber_ok (m.at_) (by omega) (by omega) w14 h73) ?_
  rintro v5 w15 ⟨h69, c8⟩
  have z37 := c8.size
  refine ops_nil ?_
  have h74 := h5.keep0 h65 (by omega)
  have h75 := h74.keep0 c8 (by omega)
  have h76 := h6.keep0 h65 (by omega)
  have h77 := h76.keep0 c8 (by omega)
  refine nx_any ⟨h75, h77, trivial⟩ ?_
  have h78 := h66.keep0 c8 (by omega)
  have h79 := h67.keep0 c8 (by omega)
  have h80 := h68.keep0 c8 (by omega)
  exact any_use hs2 (y18, y18l, y18h, y19, y19l, y19h, y20, y20l, y20h, v5, w14.heap.size, w15.heap.size) (proj_sub [0, 1, 30, 33, 37, 42, 43, 47] (by kernel_rfl)) ⟨(((Chg.refl [] w5).step0 h65 (by omega)).step0 c8 (by omega)), h78, h79, h80, h69.sl⟩
  refine any_share (X := Value × Nat × Nat × Value × Nat × Nat × Value × Nat × Nat) (fun x_ => [(0, .pointer (some ⟨b1, 0, none⟩)), (1, .pointer (some ⟨b2, 0, none⟩)), (30, x_.1), (33, x_.2.2.2.1), (36, S m.fr), (42, x_.2.2.2.2.2.2.1), (43, .func (.func 91) #[] #[]), (47, .int .i64 ((m.to.length : Int)))]) (fun x_ W7 => Chg [] w5.heap.size w5 W7 ∧ Bs W7 x_.2.1 x_.2.2.1 x_.1 (Lib.itoa (m.id)) ∧ Bs W7 x_.2.2.2.2.1 x_.2.2.2.2.2.1 x_.2.2.2.1 m.cls ∧ Bs W7 x_.2.2.2.2.2.2.2.1 x_.2.2.2.2.2.2.2.2 x_.2.2.2.2.2.2.1 (Lib.itoa (m.at_))) 4 (bm 24 2096127) ?_ (fun hs6 => ?_)
  rintro ⟨y21, y21l, y21h, y22, y22l, y22h, y23, y23l, y23h⟩ w16 ⟨h81, h82, h83, h84⟩
  replace h81 : Chg [] w5.heap.size w5 w16 := h81
  replace h82 : Bs w16 y21l y21h y21 (Lib.itoa (m.id)) := h82
  replace h83 : Bs w16 y22l y22h y22 m.cls := h83
  replace h84 : Bs w16 y23l y23h y23 (Lib.itoa (m.at_)) := h84
  have z38 := h81.size
  have z39 := h82.hi_le
  have z40 := h83.hi_le
  have z41 := h84.hi_le
  refine any_2 10 (bm 24 2097151) 21 (bm 24 4193279) (by kernel_rfl) rfl (by kernel_rfl) rfl (by kernel_rfl) ?_ ?_
  refine ops_toB (b := m.fr) (by kernel_rfl) (by kernel_rfl) (by kernel_rfl) (by kernel_rfl) (by kernel_rfl) (by first | omega | (simp only [List.length_append, List.length_cons, List.length_nil, List.length_take, List.length_drop, List.length_map]; omega)) (fun v6 w17 h85 c9 z42 => ?_)
  have z43 := c9.size
  refine ops_nil ?_
  have h86 := h5.keep0 h81 (by omega)
  have h87 := h86.keep0 c9 (by omega)
  have h88 := h6.keep0 h81 (by omega)
  have h89 := h88.keep0 c9 (by omega)
  refine nx_any ⟨h87, h89, trivial⟩ ?_
  have h90 := h82.keep0 c9 (by omega)
  have h91 := h83.keep0 c9 (by omega)
  have h92 := h84.keep0 c9 (by omega)
  exact any_use hs2 (y21, y21l, y21h, y22, y22l, y22h, v6, w16.heap.size, w17.heap.size, y23, y23l, y23h) (proj_sub [0, 1, 30, 33, 37, 42, 43, 47] (by kernel_rfl)) ⟨(((Chg.refl [] w5).step0 h81 (by omega)).step0 c9 (by omega)), h90, h91, h85.sl, h92⟩
  have h94 := hg.keep0 c1 (by omega)
  have h95 := h94.keep0 c2 (by omega)
  have h96 := h95.keep0 c3 (by omega)
  have h97 := h96.keep0 h81 (by omega)
  refine ops_callr (by kernel_rfl) (by kernel_rfl) (by kernel_rfl) (enumber_ok ((m.to.length : Int)) (by omega) (by omega) w16 h97) ?_
  rintro v7 w18 ⟨h93, c10⟩
  have z44 := c10.size
  refine ops_nil ?_
  have h98 := h5.keep0 h81 (by omega)
  have h99 := h98.keep0 c10 (by omega)
  have h100 := h6.keep0 h81 (by omega)
  have h101 := h100.keep0 c10 (by omega)
  refine nx_any ⟨h99, h101, trivial⟩ ?_
  have h102 := h82.keep0 c10 (by omega)
  have h103 := h83.keep0 c10 (by omega)
  have h104 := h84.keep0 c10 (by omega)
  exact any_use hs3 (y21, y21l, y21h, y22, y22l, y22h, y23, y23l, y23h, v7, w16.heap.size, w18.heap.size) (proj_sub [0, 1, 30, 33, 36, 42, 48] (by kernel_rfl)) ⟨(((Chg.refl [] w5).step0 h81 (by omega)).step0 c10 (by omega)), h102, h103, h104, h93.sl⟩
  refine any_share (X := Value × Nat × Nat × Value × Nat × Nat × Value × Nat × Nat) (fun x_ => [(0, .pointer (some ⟨b1, 0, none⟩)), (1, .pointer (some ⟨b2, 0, none⟩)), (30, x_.1), (32, S m.cls), (37, x_.2.2.2.1), (42, x_.2.2.2.2.2.2.1), (43, .func (.func 91) #[] #[]), (47, .int .i64 ((m.to.length : Int)))]) (fun x_ W8 => Chg [] w5.heap.size w5 W8 ∧ Bs W8 x_.2.1 x_.2.2.1 x_.1 (Lib.itoa (m.id)) ∧ Bs W8 x_.2.2.2.2.1 x_.2.2.2.2.2.1 x_.2.2.2.1 m.fr ∧ Bs W8 x_.2.2.2.2.2.2.2.1 x_.2.2.2.2.2.2.2.2 x_.2.2.2.2.2.2.1 (Lib.itoa (m.at_))) 4 (bm 24 2097087) ?_ (fun hs7 => ?_)
  rintro ⟨y24, y24l, y24h, y25, y25l, y25h, y26, y26l, y26h⟩ w19 ⟨h105, h106, h107, h108⟩
  replace h105 : Chg [] w5.heap.size w5 w19 := h105
  replace h106 : Bs w19 y24l y24h y24 (Lib.itoa (m.id)) := h106
  replace h107 : Bs w19 y25l y25h y25 m.fr := h107
  replace h108 : Bs w19 y26l y26h y26 (Lib.itoa (m.at_)) := h108
  have z45 := h105.size
  have z46 := h106.hi_le
  have z47 := h107.hi_le
  have z48 := h108.hi_le
  refine any_2 6 (bm 24 2097151) 21 (bm 24 4194239) (by kernel_rfl) rfl (by kernel_rfl) rfl (by kernel_rfl) ?_ ?_
  refine ops_toB (b := m.cls) (by kernel_rfl) (by kernel_rfl) (by kernel_rfl) (by kernel_rfl) (by kernel_rfl) (by first | omega | (simp only [List.length_append, List.length_cons, List.length_nil, List.length_take, List.length_drop, List.length_map]; omega)) (fun v8 w20 h109 c11 z49 => ?_)
  have z50 := c11.size
  refine ops_nil ?_
  have h110 := h5.keep0 h105 (by omega)
  have h111 := h110.keep0 c11 (by omega)
  have h112 := h6.keep0 h105 (by omega)
  have h113 := h112.keep0 c11 (by omega)
  refine nx_any ⟨h111, h113, trivial⟩ ?_
  have h114 := h106.keep0 c11 (by omega)
  have h115 := h107.keep0 c11 (by omega)
  have h116 := h108.keep0 c11 (by omega)
  exact any_use hs2 (y24, y24l, y24h, v8, w19.heap.size, w20.heap.size, y25, y25l, y25h, y26, y26l, y26h) (proj_sub [0, 1, 30, 33, 37, 42, 43, 47] (by kernel_rfl)) ⟨(((Chg.refl [] w5).step0 h105 (by omega)).step0 c11 (by omega)), h114, h109.sl, h115, h116⟩
  have h118 := hg.keep0 c1 (by omega)
  have h119 := h118.keep0 c2 (by omega)
  have h120 := h119.keep0 c3 (by omega)
  have h121 := h120.keep0 h105 (by omega)
  refine ops_callr (by kernel_rfl) (by kernel_rfl) (by kernel_rfl) (enumber_ok ((m.to.length : Int)) (by omega) (by omega) w19 h121) ?_
  rintro v9 w21 ⟨h117, c12⟩
  have z51 := c12.size
  refine ops_nil ?_
  have h122 := h5.keep0 h105 (by omega)
  have h123 := h122.keep0 c12 (by omega)
  have h124 := h6.keep0 h105 (by omega)
  have h125 := h124.keep0 c12 (by omega)
  refine nx_any ⟨h123, h125, trivial⟩ ?_
  have h126 := h106.keep0 c12 (by omega)
  have h127 := h107.keep0 c12 (by omega)
  have h128 := h108.keep0 c12 (by omega)
  exact any_use hs4 (y24, y24l, y24h, y25, y25l, y25h, y26, y26l, y26h, v9, w19.heap.size, w21.heap.size) (proj_sub [0, 1, 30, 32, 37, 42, 48] (by kernel_rfl)) ⟨(((Chg.refl [] w5).step0 h105 (by omega)).step0 c12 (by omega)), h126, h127, h128, h117.sl⟩
  refine any_share (X := Value × Nat × Nat × Value × Nat × Nat) (fun x_ => [(0, .pointer (some ⟨b1, 0, none⟩)), (1, .pointer (some ⟨b2, 0, none⟩)), (30, x_.1), (33, x_.2.2.2.1), (36, S m.fr), (38, .func (.func 91) #[] #[]), (41, .int .i64 m.at_), (43, .func (.func 91) #[] #[]), (47, .int .i64 ((m.to.length : Int)))]) (fun x_ W9 => Chg [] w5.heap.size w5 W9 ∧ Bs W9 x_.2.1 x_.2.2.1 x_.1 (Lib.itoa (m.id)) ∧ Bs W9 x_.2.2.2.2.1 x_.2.2.2.2.2 x_.2.2.2.1 m.cls) 5 (bm 24 2063359) ?_ (fun hs8 => ?_)
  rintro ⟨y27, y27l, y27h, y28, y28l, y28h⟩ w22 ⟨h129, h130, h131⟩
  replace h129 : Chg [] w5.heap.size w5 w22 := h129
  replace h130 : Bs w22 y27l y27h y27 (Lib.itoa (m.id)) := h130
  replace h131 : Bs w22 y28l y28h y28 m.cls := h131
  have z52 := h129.size
  have z53 := h130.hi_le
  have z54 := h131.hi_le
  refine any_2 10 (bm 24 2064383) 15 (bm 24 2096127) (by kernel_rfl) rfl (by kernel_rfl) rfl (by kernel_rfl) ?_ ?_
  refine ops_toB (b := m.fr) (by kernel_rfl) (by kernel_rfl) (by kernel_rfl) (by kernel_rfl) (by kernel_rfl) (by first | omega | (simp only [List.length_append, List.length_cons, List.length_nil, List.length_take, List.length_drop, List.length_map]; omega)) (fun v10 w23 h132 c13 z55 => ?_)
  have z56 := c13.size
  refine ops_nil ?_
  have h133 := h5.keep0 h129 (by omega)
  have h134 := h133.keep0 c13 (by omega)
  have h135 := h6.keep0 h129 (by omega)
  have h136 := h135.keep0 c13 (by omega)
  refine nx_any ⟨h134, h136, trivial⟩ ?_
  have h137 := h130.keep0 c13 (by omega)
  have h138 := h131.keep0 c13 (by omega)
  exact any_use hs5 (y27, y27l, y27h, y28, y28l, y28h, v10, w22.heap.size, w23.heap.size) (proj_sub [0, 1, 30, 33, 37, 38, 41, 43, 47] (by kernel_rfl)) ⟨(((Chg.refl [] w5).step0 h129 (by omega)).step0 c13 (by omega)), h137, h138, h132.sl⟩
  have h140 := hg.keep0 c1 (by omega)
  have h141 := h140.keep0 c2 (by omega)
  have h142 := h141.keep0 c3 (by omega)
  have h143 := h142.keep0 h129 (by omega)
  refine ops_callr (by kernel_rfl) (by kernel_rfl) (by kernel_rfl) (enumber_ok (m.at_) (by omega) (by omega) w22 h143) ?_
  rintro v11 w24 ⟨h139, c14⟩
  have z57 := c14.size
  refine ops_nil ?_
  have h144 := h5.keep0 h129 (by omega)
  have h145 := h144.keep0 c14 (by omega)
  have h146 := h6.keep0 h129 (by omega)
  have h147 := h146.keep0 c14 (by omega)
  refine nx_any ⟨h145, h147, trivial⟩ ?_
  have h148 := h130.keep0 c14 (by omega)
  have h149 := h131.keep0 c14 (by omega)
  exact any_use hs6 (y27, y27l, y27h, y28, y28l, y28h, v11, w22.heap.size, w24.heap.size) (proj_sub [0, 1, 30, 33, 36, 42, 43, 47] (by kernel_rfl)) ⟨(((Chg.refl [] w5).step0 h129 (by omega)).step0 c14 (by omega)), h148, h149, h139.sl⟩
  refine any_share (X := Value × Nat × Nat × Value × Nat × Nat) (fun x_ => [(0, .pointer (some ⟨b1, 0, none⟩)), (1, .pointer (some ⟨b2, 0, none⟩)), (30, x_.1), (32, S m.cls), (37, x_.2.2.2.1), (38, .func (.func 91) #[] #[]), (41, .int .i64 m.at_), (43, .func (.func 91) #[] #[]), (47, .int .i64 ((m.to.length : Int)))]) (fun x_ W10 => Chg [] w5.heap.size w5 W10 ∧ Bs W10 x_.2.1 x_.2.2.1 x_.1 (Lib.itoa (m.id)) ∧ Bs W10 x_.2.2.2.2.1 x_.2.2.2.2.2 x_.2.2.2.1 m.fr) 5 (bm 24 2064319) ?_ (fun hs9 => ?_)
  rintro ⟨y29, y29l, y29h, y30, y30l, y30h⟩ w25 ⟨h150, h151, h152⟩
  replace h150 : Chg [] w5.heap.size w5 w25 := h150
  replace h151 : Bs w25 y29l y29h y29 (Lib.itoa (m.id)) := h151
  replace h152 : Bs w25 y30l y30h y30 m.fr := h152
  have z58 := h150.size
  have z59 := h151.hi_le
  have z60 := h152.hi_le
  refine any_2 6 (bm 24 2064383) 15 (bm 24 2097087) (by kernel_rfl) rfl (by kernel_rfl) rfl (by kernel_rfl) ?_ ?_
  refine ops_toB (b := m.cls) (by kernel_rfl) (by kernel_rfl) (by kernel_rfl) (by kernel_rfl) (by kernel_rfl) (by first | omega | (simp only [List.length_append, List.length_cons, List.length_nil, List.length_take, List.length_drop, List.length_map]; omega)) (fun v12 w26 h153 c15 z61 => ?_)
  have z62 := c15.size
  refine ops_nil ?_
  have h154 := h5.keep0 h150 (by omega)
  have h155 := h154.keep0 c15 (by omega)
  have h156 := h6.keep0 h150 (by omega)
  have h157 := h156.keep0 c15 (by omega)
  refine nx_any ⟨h155, h157, trivial⟩ ?_
  have h158 := h151.keep0 c15 (by omega)
  have h159 := h152.keep0 c15 (by omega)
  exact any_use hs5 (y29, y29l, y29h, v12, w25.heap.size, w26.heap.size, y30, y30l, y30h) (proj_sub [0, 1, 30, 33, 37, 38, 41, 43, 47] (by kernel_rfl)) ⟨(((Chg.refl [] w5).step0 h150 (by omega)).step0 c15 (by omega)), h158, h153.sl, h159⟩
  have h161 := hg.keep0 c1 (by omega)
  have h162 := h161.keep0 c2 (by omega)
  have h163 := h162.keep0 c3 (by omega)
  have h164 := h163.keep0 h150 (by omega)
  refine ops_callr (by kernel_rfl) (by kernel_rfl) (by kernel_rfl) (enumber_ok (m.at_) (by omega) (by omega) w25 h164) ?_
  rintro v13 w27 ⟨h160, c16⟩
  have z63 := c16.size
  refine ops_nil ?_
  have h165 := h5.keep0 h150 (by omega)
  have h166 := h165.keep0 c16 (by omega)
  have h167 := h6.keep0 h150 (by omega)
  have h168 := h167.keep0 c16 (by omega)
  refine nx_any ⟨h166, h168, trivial⟩ ?_
  have h169 := h151.keep0 c16 (by omega)
  have h170 := h152.keep0 c16 (by omega)
  exact any_use hs7 (y29, y29l, y29h, y30, y30l, y30h, v13, w25.heap.size, w27.heap.size) (proj_sub [0, 1, 30, 32, 37, 42, 43, 47] (by kernel_rfl)) ⟨(((Chg.refl [] w5).step0 h150 (by omega)).step0 c16 (by omega)), h169, h170, h160.sl⟩
  refine any_share (X := Value × Nat × Nat × Value × Nat × Nat) (fun x_ => [(0, .pointer (some ⟨b1, 0, none⟩)), (1, .pointer (some ⟨b2, 0, none⟩)), (27, .func (.func 91) #[] #[]), (29, .int .i64 m.id), (33, x_.1), (37, x_.2.2.2.1), (38, .func (.func 91) #[] #[]), (41, .int .i64 m.at_), (43, .func (.func 91) #[] #[]), (47, .int .i64 ((m.to.length : Int)))]) (fun x_ W11 => Chg [] w5.heap.size w5 W11 ∧ Bs W11 x_.2.1 x_.2.2.1 x_.1 m.cls ∧ Bs W11 x_.2.2.2.2.1 x_.2.2.2.2.2 x_.2.2.2.1 m.fr) 5 (bm 24 2064375) ?_ (fun hs10 => ?_)
  rintro ⟨y31, y31l, y31h, y32, y32l, y32h⟩ w28 ⟨h171, h172, h173⟩
  replace h171 : Chg [] w5.heap.size w5 w28 := h171
  replace h172 : Bs w28 y31l y31h y31 m.cls := h172
  replace h173 : Bs w28 y32l y32h y32 m.fr := h173
  have z64 := h171.size
  have z65 := h172.hi_le
  have z66 := h173.hi_le
  refine any_1 3 (bm 24 2064383) (by kernel_rfl) rfl (by kernel_rfl) ?_
  have h175 := hg.keep0 c1 (by omega)
  have h176 := h175.keep0 c2 (by omega)
  have h177 := h176.keep0 c3 (by omega)
  have h178 := h177.keep0 h171 (by omega)
  refine ops_callr (by kernel_rfl) (by kernel_rfl) (by kernel_rfl) (enumber_ok (m.id) (by omega) (by omega) w28 h178) ?_
  rintro v14 w29 ⟨h174, c17⟩
  have z67 := c17.size
  refine ops_nil ?_
  have h179 := h5.keep0 h171 (by omega)
  have h180 := h179.keep0 c17 (by omega)
  have h181 := h6.keep0 h171 (by omega)
  have h182 := h181.keep0 c17 (by omega)
  refine nx_any ⟨h180, h182, trivial⟩ ?_
  have h183 := h172.keep0 c17 (by omega)
  have h184 := h173.keep0 c17 (by omega)
  exact any_use hs5 (v14, w28.heap.size, w29.heap.size, y31, y31l, y31h, y32, y32l, y32h) (proj_sub [0, 1, 30, 33, 37, 38, 41, 43, 47] (by kernel_rfl)) ⟨(((Chg.refl [] w5).step0 h171 (by omega)).step0 c17 (by omega)), h174.sl, h183, h184⟩
  refine any_takes [0, 1] (fuel' := 22) (listed' := (bm 24 3)) (l' := [(0, .pointer (some ⟨b1, 0, none⟩)), (1, .pointer (some ⟨b2, 0, none⟩)), (2, .func (.func 91) #[] #[]), (27, .func (.func 91) #[] #[]), (28, .pointer (some ⟨b1, 0, none⟩))]) panK_FB (by kernel_rfl) (by kernel_rfl) (by kernel_rfl) ?_
  refine any_load (i := 2) (j := 0) (listed' := (bm 24 7)) (v := .int .i64 m.id) panK_FB (by kernel_rfl) rfl (by kernel_rfl) (by kernel_rfl) (by kernel_rfl) (by kernel_rfl) (by kernel_rfl) (by kernel_rfl) (fun W hW => hW.1) (by kernel_rfl) ?_
  refine any_takes [4] (fuel' := 20) (listed' := (bm 24 23)) (l' := [(0, .pointer (some ⟨b1, 0, none⟩)), (1, .pointer (some ⟨b2, 0, none⟩)), (2, .func (.func 91) #[] #[]), (27, .func (.func 91) #[] #[]), (29, .int .i64 m.id), (31, .pointer (some ⟨b1, 1, none⟩))]) panK_FB (by kernel_rfl) (by kernel_rfl) (by kernel_rfl) ?_
  refine any_load (i := 5) (j := 1) (listed' := (bm 24 55)) (v := S m.cls) panK_FB (by kernel_rfl) rfl (by kernel_rfl) (by kernel_rfl) (by kernel_rfl) (by kernel_rfl) (by kernel_rfl) (by kernel_rfl) (fun W hW => hW.1) (by kernel_rfl) ?_
  refine any_takes [7, 8] (fuel' := 17) (listed' := (bm 24 439)) (l' := [(0, .pointer (some ⟨b1, 0, none⟩)), (1, .pointer (some ⟨b2, 0, none⟩)), (2, .func (.func 91) #[] #[]), (27, .func (.func 91) #[] #[]), (29, .int .i64 m.id), (32, S m.cls), (35, .pointer (some ⟨b1, 2, none⟩))]) panK_FB (by kernel_rfl) (by kernel_rfl) (by kernel_rfl) ?_
  refine any_load (i := 9) (j := 2) (listed' := (bm 24 951)) (v := S m.fr) panK_FB (by kernel_rfl) rfl (by kernel_rfl) (by kernel_rfl) (by kernel_rfl) (by kernel_rfl) (by kernel_rfl) (by kernel_rfl) (fun W hW => hW.1) (by kernel_rfl) ?_
  refine any_takes [11, 12, 13] (fuel' := 13) (listed' := (bm 24 15287)) (l' := [(0, .pointer (some ⟨b1, 0, none⟩)), (1, .pointer (some ⟨b2, 0, none⟩)), (2, .func (.func 91) #[] #[]), (27, .func (.func 91) #[] #[]), (29, .int .i64 m.id), (32, S m.cls), (36, S m.fr), (38, .func (.func 91) #[] #[]), (40, .pointer (some ⟨b1, 4, none⟩))]) panK_FB (by kernel_rfl) (by kernel_rfl) (by kernel_rfl) ?_
  refine any_load (i := 14) (j := 4) (listed' := (bm 24 31671)) (v := .int .i64 m.at_) panK_FB (by kernel_rfl) rfl (by kernel_rfl) (by kernel_rfl) (by kernel_rfl) (by kernel_rfl) (by kernel_rfl) (by kernel_rfl) (fun W hW => hW.1) (by kernel_rfl) ?_
  refine any_takes [16, 17, 18] (fuel' := 9) (listed' := (bm 24 490423)) (l' := [(0, .pointer (some ⟨b1, 0, none⟩)), (1, .pointer (some ⟨b2, 0, none⟩)), (27, .func (.func 91) #[] #[]), (29, .int .i64 m.id), (32, S m.cls), (36, S m.fr), (38, .func (.func 91) #[] #[]), (41, .int .i64 m.at_), (43, .func (.func 91) #[] #[]), (45, .pointer (some ⟨b1, 3, none⟩))]) panK_FB (by kernel_rfl) (by kernel_rfl) (by kernel_rfl) ?_
  refine any_load (i := 19) (j := 3) (listed' := (bm 24 1014711)) (v := tv) panK_FB (by kernel_rfl) rfl (by kernel_rfl) (by kernel_rfl) (by kernel_rfl) (by kernel_rfl) (by kernel_rfl) (by kernel_rfl) (fun W hW => hW.1) (by kernel_rfl) ?_
  have h185 := ht.keep0 c1 (by omega)
  have h186 := h185.keep0 c2 (by omega)
  have h187 := h186.keep0 c3 (by omega)
  refine any_len (i := 20) (listed' := (bm 24 2063287)) (e := 9) panK_FB (by kernel_rfl) rfl (by kernel_rfl) (by kernel_rfl) (by kernel_rfl) (by kernel_rfl) (by kernel_rfl) (by kernel_rfl) h187 ?_
  refine any_3 3 (bm 24 2063295) 6 (bm 24 2063351) 10 (bm 24 2064311) (by kernel_rfl) rfl (by kernel_rfl) rfl (by kernel_rfl) rfl (by kernel_rfl) ?_ ?_ ?_
  have h189 := hg.keep0 c1 (by omega)
  have h190 := h189.keep0 c2 (by omega)
  have h191 := h190.keep0 c3 (by omega)
  refine ops_callr (by kernel_rfl) (by kernel_rfl) (by kernel_rfl) (enumber_ok (m.id) (by omega) (by omega) w5 h191) ?_
  rintro v15 w30 ⟨h188, c18⟩
  have z68 := c18.size
  refine ops_nil ?_
  have h192 := h5.keep0 c18 (by omega)
  have h193 := h6.keep0 c18 (by omega)
  refine nx_any ⟨h192, h193, trivial⟩ ?_
  refine any_3 6 (bm 24 2063359) 10 (bm 24 2064319) 15 (bm 24 2096063) (by kernel_rfl) rfl (by kernel_rfl) rfl (by kernel_rfl) rfl (by kernel_rfl) ?_ ?_ ?_
  refine ops_toB (b := m.cls) (by kernel_rfl) (by kernel_rfl) (by kernel_rfl) (by kernel_rfl) (by kernel_rfl) (by first | omega | (simp only [List.length_append, List.length_cons, List.length_nil, List.length_take, List.length_drop, List.length_map]; omega)) (fun v16 w31 h194 c19 z69 => ?_)
  have z70 := c19.size
  refine ops_nil ?_
  have h195 := h192.keep0 c19 (by omega)
  have h196 := h193.keep0 c19 (by omega)
  refine nx_any ⟨h195, h196, trivial⟩ ?_
  have h197 := h188.keep c19 (by omega) (fun _ _ _ => by simp)
  exact any_use hs8 (v15, w5.heap.size, w31.heap.size, v16, w30.heap.size, w31.heap.size) (proj_sub [0, 1, 30, 33, 36, 38, 41, 43, 47] (by kernel_rfl)) ⟨(((Chg.refl [] w5).step0 c18 (by omega)).step0 c19 (by omega)), h197.sl, h194.sl⟩
  refine ops_toB (b := m.fr) (by kernel_rfl) (by kernel_rfl) (by kernel_rfl) (by kernel_rfl) (by kernel_rfl) (by first | omega | (simp only [List.length_append, List.length_cons, List.length_nil, List.length_take, List.length_drop, List.length_map]; omega)) (fun v17 w32 h198 c20 z71 => ?_)
  have z72 := c20.size
  refine ops_nil ?_
  have h199 := h192.keep0 c20 (by omega)
  have h200 := h193.keep0 c20 (by omega)
  refine nx_any ⟨h199, h200, trivial⟩ ?_
  have h201 := h188.keep c20 (by omega) (fun _ _ _ => by simp)
  exact any_use hs9 (v15, w5.heap.size, w32.heap.size, v17, w30.heap.size, w32.heap.size) (proj_sub [0, 1, 30, 32, 37, 38, 41, 43, 47] (by kernel_rfl)) ⟨(((Chg.refl [] w5).step0 c18 (by omega)).step0 c20 (by omega)), h201.sl, h198.sl⟩
  have h203 := h191.keep0 c18 (by omega)
  refine ops_callr (by kernel_rfl) (by kernel_rfl) (by kernel_rfl) (enumber_ok (m.at_) (by omega) (by omega) w30 h203) ?_
  rintro v18 w33 ⟨h202, c21⟩
  have z73 := c21.size
  refine ops_nil ?_
  have h204 := h192.keep0 c21 (by omega)
  have h205 := h193.keep0 c21 (by omega)
  refine nx_any ⟨h204, h205, trivial⟩ ?_
  refine any_3 6 (bm 24 2096127) 10 (bm 24 2097087) 21 (bm 24 4193215) (by kernel_rfl) rfl (by kernel_rfl) rfl (by kernel_rfl) rfl (by kernel_rfl) ?_ ?_ ?_
  refine ops_toB (b := m.cls) (by kernel_rfl) (by kernel_rfl) (by kernel_rfl) (by kernel_rfl) (by kernel_rfl) (by first | omega | (simp only [List.length_append, List.length_cons, List.length_nil, List.length_take, List.length_drop, List.length_map]; omega)) (fun v19 w34 h206 c22 z74 => ?_)
  have z75 := c22.size
  refine ops_nil ?_
  have h207 := h204.keep0 c22 (by omega)
  have h208 := h205.keep0 c22 (by omega)
  refine nx_any ⟨h207, h208, trivial⟩ ?_
  have h209 := h188.keep c21 (by omega) (fun _ _ _ => by simp)
  have h210 := h209.keep c22 (by omega) (fun _ _ _ => by simp)
  have h211 := h202.keep c22 (by omega) (fun _ _ _ => by simp)
  exact any_use hs6 (v15, w5.heap.size, w34.heap.size, v19, w33.heap.size, w34.heap.size, v18, w30.heap.size, w34.heap.size) (proj_sub [0, 1, 30, 33, 36, 42, 43, 47] (by kernel_rfl)) ⟨((((Chg.refl [] w5).step0 c18 (by omega)).step0 c21 (by omega)).step0 c22 (by omega)), h210.sl, h206.sl, h211.sl⟩
  refine ops_toB (b := m.fr) (by kernel_rfl) (by kernel_rfl) (by kernel_rfl) (by kernel_rfl) (by kernel_rfl) (by first | omega | (simp only [List.length_append, List.length_cons, List.length_nil, List.length_take, List.length_drop, List.length_map]; omega)) (fun v20 w35 h212 c23 z76 => ?_)
  have z77 := c23.size
  refine ops_nil ?_
  have h213 := h204.keep0 c23 (by omega)
  have h214 := h205.keep0 c23 (by omega)
  refine nx_any ⟨h213, h214, trivial⟩ ?_
  have h215 := h188.keep c21 (by omega) (fun _ _ _ => by simp)
  have h216 := h215.keep c23 (by omega) (fun _ _ _ => by simp)
  have h217 := h202.keep c23 (by omega) (fun _ _ _ => by simp)
  exact any_use hs7 (v15, w5.heap.size, w35.heap.size, v20, w33.heap.size, w35.heap.size, v18, w30.heap.size, w35.heap.size) (proj_sub [0, 1, 30, 32, 37, 42, 43, 47] (by kernel_rfl)) ⟨((((Chg.refl [] w5).step0 c18 (by omega)).step0 c21 (by omega)).step0 c23 (by omega)), h216.sl, h212.sl, h217.sl⟩
  have h219 := h203.keep0 c21 (by omega)
  refine ops_callr (by kernel_rfl) (by kernel_rfl) (by kernel_rfl) (enumber_ok ((m.to.length : Int)) (by omega) (by omega) w33 h219) ?_
  rintro v21 w36 ⟨h218, c24⟩
  have z78 := c24.size
  refine ops_nil ?_
  have h220 := h204.keep0 c24 (by omega)
  have h221 := h205.keep0 c24 (by omega)
  refine nx_any ⟨h220, h221, trivial⟩ ?_
  refine any_2 6 (bm 24 4193279) 10 (bm 24 4194239) (by kernel_rfl) rfl (by kernel_rfl) rfl (by kernel_rfl) ?_ ?_
  refine ops_toB (b := m.cls) (by kernel_rfl) (by kernel_rfl) (by kernel_rfl) (by kernel_rfl) (by kernel_rfl) (by first | omega | (simp only [List.length_append, List.length_cons, List.length_nil, List.length_take, List.length_drop, List.length_map]; omega)) (fun v22 w37 h222 c25 z79 => ?_)
  have z80 := c25.size
  refine ops_nil ?_
  have h223 := h220.keep0 c25 (by omega)
  have h224 := h221.keep0 c25 (by omega)
  refine nx_any ⟨h223, h224, trivial⟩ ?_
  have h225 := h188.keep c21 (by omega) (fun _ _ _ => by simp)
  have h226 := h225.keep c24 (by omega) (fun _ _ _ => by simp)
  have h227 := h226.keep c25 (by omega) (fun _ _ _ => by simp)
  have h228 := h202.keep c24 (by omega) (fun _ _ _ => by simp)
  have h229 := h228.keep c25 (by omega) (fun _ _ _ => by simp)
  have h230 := h218.keep c25 (by omega) (fun _ _ _ => by simp)
  exact any_use hs3 (v15, w5.heap.size, w37.heap.size, v22, w36.heap.size, w37.heap.size, v18, w30.heap.size, w37.heap.size, v21, w33.heap.size, w37.heap.size) (proj_sub [0, 1, 30, 33, 36, 42, 48] (by kernel_rfl)) ⟨(((((Chg.refl [] w5).step0 c18 (by omega)).step0 c21 (by omega)).step0 c24 (by omega)).step0 c25 (by omega)), h227.sl, h222.sl, h229.sl, h230.sl⟩
  refine ops_toB (b := m.fr) (by kernel_rfl) (by kernel_rfl) (by kernel_rfl) (by kernel_rfl) (by kernel_rfl) (by first | omega | (simp only [List.length_append, List.length_cons, List.length_nil, List.length_take, List.length_drop, List.length_map]; omega)) (fun v23 w38 h231 c26 z81 => ?_)
  have z82 := c26.size
  refine ops_nil ?_
  have h232 := h220.keep0 c26 (by omega)
  have h233 := h221.keep0 c26 (by omega)
  refine nx_any ⟨h232, h233, trivial⟩ ?_
  have h234 := h188.keep c21 (by omega) (fun _ _ _ => by simp)
  have h235 := h234.keep c24 (by omega) (fun _ _ _ => by simp)
  have h236 := h235.keep c26 (by omega) (fun _ _ _ => by simp)
  have h237 := h202.keep c24 (by omega) (fun _ _ _ => by simp)
  have h238 := h237.keep c26 (by omega) (fun _ _ _ => by simp)
  have h239 := h218.keep c26 (by omega) (fun _ _ _ => by simp)
  exact any_use hs4 (v15, w5.heap.size, w38.heap.size, v23, w36.heap.size, w38.heap.size, v18, w30.heap.size, w38.heap.size, v21, w33.heap.size, w38.heap.size) (proj_sub [0, 1, 30, 32, 37, 42, 48] (by kernel_rfl)) ⟨(((((Chg.refl [] w5).step0 c18 (by omega)).step0 c21 (by omega)).step0 c24 (by omega)).step0 c26 (by omega)), h236.sl, h231.sl, h238.sl, h239.sl⟩
  refine ops_toB (b := m.cls) (by kernel_rfl) (by kernel_rfl) (by kernel_rfl) (by kernel_rfl) (by kernel_rfl) (by first | omega | (simp only [List.length_append, List.length_cons, List.length_nil, List.length_take, List.length_drop, List.length_map]; omega)) (fun v24 w39 h240 c27 z83 => ?_)
  have z84 := c27.size
  refine ops_nil ?_
  have h241 := h5.keep0 c27 (by omega)
  have h242 := h6.keep0 c27 (by omega)
  refine nx_any ⟨h241, h242, trivial⟩ ?_
  refine any_2 3 (bm 24 2063359) 10 (bm 24 2064375) (by kernel_rfl) rfl (by kernel_rfl) rfl (by kernel_rfl) ?_ ?_
  have h244 := hg.keep0 c1 (by omega)
  have h245 := h244.keep0 c2 (by omega)
  have h246 := h245.keep0 c3 (by omega)
  have h247 := h246.keep0 c27 (by omega)
  refine ops_callr (by kernel_rfl) (by kernel_rfl) (by kernel_rfl) (enumber_ok (m.id) (by omega) (by omega) w39 h247) ?_
  rintro v25 w40 ⟨h243, c28⟩
  have z85 := c28.size
  refine ops_nil ?_
  have h248 := h241.keep0 c28 (by omega)
  have h249 := h242.keep0 c28 (by omega)
  refine nx_any ⟨h248, h249, trivial⟩ ?_
  have h250 := h240.keep c28 (by omega) (fun _ _ _ => by simp)
  exact any_use hs8 (v25, w39.heap.size, w40.heap.size, v24, w5.heap.size, w40.heap.size) (proj_sub [0, 1, 30, 33, 36, 38, 41, 43, 47] (by kernel_rfl)) ⟨(((Chg.refl [] w5).step0 c27 (by omega)).step0 c28 (by omega)), h243.sl, h250.sl⟩
  refine ops_toB (b := m.fr) (by kernel_rfl) (by kernel_rfl) (by kernel_rfl) (by kernel_rfl) (by kernel_rfl) (by first | omega | (simp only [List.length_append, List.length_cons, List.length_nil, List.length_take, List.length_drop, List.length_map]; omega)) (fun v26 w41 h251 c29 z86 => ?_)
  have z87 := c29.size
  refine ops_nil ?_
  have h252 := h241.keep0 c29 (by omega)
  have h253 := h242.keep0 c29 (by omega)
  refine nx_any ⟨h252, h253, trivial⟩ ?_
  have h254 := h240.keep c29 (by omega) (fun _ _ _ => by simp)
  exact any_use hs10 (v24, w5.heap.size, w41.heap.size, v26, w39.heap.size, w41.heap.size) (proj_sub [0, 1, 27, 29, 33, 37, 38, 41, 43, 47] (by kernel_rfl)) ⟨(((Chg.refl [] w5).step0 c27 (by omega)).step0 c29 (by omega)), h254.sl, h251.sl⟩
  refine ops_toB (b := m.fr) (by kernel_rfl) (by kernel_rfl) (by kernel_rfl) (by kernel_rfl) (by kernel_rfl) (by first | omega | (simp only [List.length_append, List.length_cons, List.length_nil, List.length_take, List.length_drop, List.length_map]; omega)) (fun v27 w42 h255 c30 z88 => ?_)
  have z89 := c30.size
  refine ops_nil ?_
  have h256 := h5.keep0 c30 (by omega)
  have h257 := h6.keep0 c30 (by omega)
  refine nx_any ⟨h256, h257, trivial⟩ ?_
  refine any_2 3 (bm 24 2064319) 6 (bm 24 2064375) (by kernel_rfl) rfl (by kernel_rfl) rfl (by kernel_rfl) ?_ ?_
  have h259 := hg.keep0 c1 (by omega)
  have h260 := h259.keep0 c2 (by omega)
  have h261 := h260.keep0 c3 (by omega)
  have h262 := h261.keep0 c30 (by omega)
  refine ops_callr (by kernel_rfl) (by kernel_rfl) (by kernel_rfl) (enumber_ok (m.id) (by omega) (by omega) w42 h262) ?_
  rintro v28 w43 ⟨h258, c31⟩
  have z90 := c31.size
  refine ops_nil ?_
  have h263 := h256.keep0 c31 (by omega)
  have h264 := h257.keep0 c31 (by omega)
  refine nx_any ⟨h263, h264, trivial⟩ ?_
  have h265 := h255.keep c31 (by omega) (fun _ _ _ => by simp)
  exact any_use hs9 (v28, w42.heap.size, w43.heap.size, v27, w5.heap.size, w43.heap.size) (proj_sub [0, 1, 30, 32, 37, 38, 41, 43, 47] (by kernel_rfl)) ⟨(((Chg.refl [] w5).step0 c30 (by omega)).step0 c31 (by omega)), h258.sl, h265.sl⟩
  refine ops_toB (b := m.cls) (by kernel_rfl) (by kernel_rfl) (by kernel_rfl) (by kernel_rfl) (by kernel_rfl) (by first | omega | (simp only [List.length_append, List.length_cons, List.length_nil, List.length_take, List.length_drop, List.length_map]; omega)) (fun v29 w44 h266 c32 z91 => ?_)
  have z92 := c32.size
  refine ops_nil ?_
  have h267 := h256.keep0 c32 (by omega)
  have h268 := h257.keep0 c32 (by omega)
  refine nx_any ⟨h267, h268, trivial⟩ ?_
  have h269 := h255.keep c32 (by omega) (fun _ _ _ => by simp)
  exact any_use hs10 (v29, w42.heap.size, w44.heap.size, v27, w5.heap.size, w44.heap.size) (proj_sub [0, 1, 27, 29, 33, 37, 38, 41, 43, 47] (by kernel_rfl)) ⟨(((Chg.refl [] w5).step0 c30 (by omega)).step0 c32 (by omega)), h266.sl, h269.sl⟩
  rintro v0 w45 ⟨h270, h271⟩
  replace h270 : Chg [] (w3.heap.size) w3 w45 := h270
  replace h271 : OwnBB w45 w.heap.size v0 [Lib.itoa (m.id), m.cls, m.fr, Lib.itoa (m.at_), Lib.itoa (m.to.length : Int)] := h271
  have z93 := h270.size
  have hmp : msgP m := ⟨hck, by omega, by omega, by assumption⟩
  have hsh := partsM_short hmp hat
  have h100 := hck.2.1
  refine at_seq (at_seq (at_region ?_))
  refine ops_run2 (l' := [(0, .pointer (some ⟨b1, 0, none⟩)), (1, .pointer (some ⟨b2, 0, none⟩)), (3, v0), (51, .pointer (some ⟨b1, 3, none⟩))]) (by kernel_rfl) ?_
  have h272 := h1.keep0 c2 (by omega)
  have h273 := h272.keep0 h270 (by omega)
  refine ops_loadB (i := 3) (v := tv) (by kernel_rfl) (by kernel_rfl) (by kernel_rfl) (by kernel_rfl) h273 (by kernel_rfl) ?_
  have h274 := ht.keep0 c1 (by omega)
  have h275 := h274.keep0 c2 (by omega)
  have h276 := h275.keep0 h270 (by omega)
  refine ops_len (e := 9) (by kernel_rfl) (by kernel_rfl) (by kernel_rfl) (by kernel_rfl) h276 ?_
  refine ops_run1 (l' := [(0, .pointer (some ⟨b1, 0, none⟩)), (1, .pointer (some ⟨b2, 0, none⟩)), (3, v0), (52, tv), (53, .int .i64 ((m.to.length : Int))), (54, .int .i64 0)]) (by kernel_rfl) ?_
  refine ops_nil (nx_seq (at_block ?_))
  refine at_loop (X := Value × Nat) (fun x_ => [(0, .pointer (some ⟨b1, 0, none⟩)), (1, .pointer (some ⟨b2, 0, none⟩)), (3, x_.1), (52, tv), (53, .int .i64 ((m.to.length : Int))), (54, .int .i64 ((x_.2 : Int)))]) (fun x_ W12 => Chg [] (w.heap.size) w45 W12 ∧ OwnBB W12 w.heap.size x_.1 ([Lib.itoa (m.id), m.cls, m.fr, Lib.itoa (m.at_), Lib.itoa (m.to.length : Int)] ++ m.to.take x_.2) ∧ (x_.2 ≤ m.to.length)) (fun x_ => m.to.length - x_.2) (v0, 0) (proj_sub [0, 1, 3, 52, 53, 54] (by kernel_rfl)) ⟨((Chg.refl [] w45).to (by omega) (by simp)), h271, (show 0 ≤ m.to.length by first | omega | (simp only [List.length_append, List.length_cons, List.length_nil, List.length_take, List.length_drop, List.length_map]; omega))⟩ ?_
  rintro ⟨v1, k⟩ w46 ⟨h277, h278, h279⟩
  replace h277 : Chg [] (w.heap.size) w45 w46 := h277
  replace h278 : OwnBB w46 w.heap.size v1 ([Lib.itoa (m.id), m.cls, m.fr, Lib.itoa (m.at_), Lib.itoa (m.to.length : Int)] ++ m.to.take k) := h278
  replace h279 : (k ≤ m.to.length) := h279
  have z94 := h277.size
  refine at_seq (at_region ?_)
  refine ops_run1 (l' := [(0, .pointer (some ⟨b1, 0, none⟩)), (1, .pointer (some ⟨b2, 0, none⟩)), (3, v1), (52, tv), (53, .int .i64 ((m.to.length : Int))), (54, .int .i64 ((k : Int))), (55, .bool (decide (((k : Int) : Int) < ((m.to.length : Int) : Int))))]) (by kernel_rfl) ?_
  refine ops_nil (nx_seq (at_seq ?_))
  refine at_ifp (((k : Int) : Int) < ((m.to.length : Int) : Int)) (by kernel_rfl) (fun q6 => ?_) (fun q6 => ?_)
  refine at_skip (nx_seq (at_seq (at_block (at_seq (at_region ?_)))))
  have h280 := h276.keep0 h277 (by omega)
  refine ops_idx (e := 9) (i := (k : Int)) (kd := .i64) k (by kernel_rfl) (by kernel_rfl) (by kernel_rfl) (by kernel_rfl) (by kernel_rfl) (by kernel_rfl) h280 (by omega) (by first | omega | (simp only [List.length_append, List.length_cons, List.length_nil, List.length_take, List.length_drop, List.length_map]; omega)) (fun a1 h281 => ?_)
  have h282 := cell_sAt (l := m.to) (j := k) h281 (by omega)
  refine ops_load (by kernel_rfl) (by kernel_rfl) (by kernel_rfl) (by kernel_rfl) h282 ?_
  have hpl := hto (m.to.getD k []) (getD_mem (by omega))
  refine ops_run1 (l' := [(0, .pointer (some ⟨b1, 0, none⟩)), (1, .pointer (some ⟨b2, 0, none⟩)), (3, v1), (5, S (m.to.getD k [])), (52, tv), (53, .int .i64 ((m.to.length : Int))), (54, .int .i64 ((k : Int)))]) (by kernel_rfl) ?_
  refine ops_nil (nx_seq (at_region ?_))
  refine ops_run2 (l' := [(0, .pointer (some ⟨b1, 0, none⟩)), (1, .pointer (some ⟨b2, 0, none⟩)), (3, v1), (52, tv), (53, .int .i64 ((m.to.length : Int))), (54, .int .i64 ((k : Int))), (58, v1), (59, S (m.to.getD k []))]) (by kernel_rfl) ?_
  refine ops_toB (b := m.to.getD k []) (by kernel_rfl) (by kernel_rfl) (by kernel_rfl) (by kernel_rfl) (by kernel_rfl) (by first | omega | (simp only [List.length_append, List.length_cons, List.length_nil, List.length_take, List.length_drop, List.length_map]; omega)) (fun v30 w47 h283 c33 z95 => ?_)
  have z96 := c33.size
  refine ops_litV (e := 22) [v30] (by kernel_rfl) (by kernel_rfl) (by kernel_rfl) (by kernel_rfl) (by intro v hv; simp only [List.mem_cons, List.not_mem_nil, or_false] at hv; rcases hv with rfl; exact h283.sl.cells1) rfl (by decide) (fun v31 w48 h284 c34 z97 => ?_)
  have z98 := c34.size
  have h285 : OwnBB w48 (w47.heap.size) v31 [m.to.getD k []] := ownBB_lit rfl h284 c34 ⟨ElB.of h283.sl h283.sl.hi_le (by simp), trivial⟩
  have h286 := h278.keep0 c33
  have h287 := h286.keep0 c34
  have h289 := h283.keep c34 (by omega) (fun _ _ _ => by simp)
  refine ops_appendBB (e := 22) (by_ := 24) (l1 := ([Lib.itoa (m.id), m.cls, m.fr, Lib.itoa (m.at_), Lib.itoa (m.to.length : Int)] ++ m.to.take k)) (l2 := [m.to.getD k []]) (by kernel_rfl) (by kernel_rfl) (by kernel_rfl) (by kernel_rfl) (by kernel_rfl) (by kernel_rfl) (by kernel_rfl) h287 h284.1.sl ⟨ElB.of h289.sl h289.sl.hi_le (fun b hb => by have := (OwnBB.slice h278) b hb; omega), trivial⟩ (by intro u hu; simp only [List.mem_cons, List.not_mem_nil, or_false] at hu; subst hu; exact sl_one h289.sl) (by first | omega | (simp only [List.length_append, List.length_cons, List.length_nil, List.length_take, List.length_drop, List.length_map]; omega)) (by first | omega | (simp only [List.length_append, List.length_cons, List.length_nil, List.length_take, List.length_drop, List.length_map]; omega)) (fun v32 w49 h288 c35 c36 => ?_)
  have z99 := c35.size
  refine ops_run1 (l' := [(0, .pointer (some ⟨b1, 0, none⟩)), (1, .pointer (some ⟨b2, 0, none⟩)), (3, v32), (52, tv), (53, .int .i64 ((m.to.length : Int))), (54, .int .i64 ((k : Int)))]) (by kernel_rfl) ?_
  refine ops_nil (nx_blk (nx_seq (at_region ?_)))
  refine ops_add (a := (k : Int)) (b := 1) (kd := .i64) (by kernel_rfl) (by kernel_rfl) (by kernel_rfl) (by kernel_rfl) (show (-9223372036854775808 : Int) ≤ ((k : Int)) + 1 by omega) (show ((k : Int)) + 1 ≤ (9223372036854775807 : Int) by omega) ?_
  refine ops_run1 (l' := [(0, .pointer (some ⟨b1, 0, none⟩)), (1, .pointer (some ⟨b2, 0, none⟩)), (3, v32), (52, tv), (53, .int .i64 ((m.to.length : Int))), (54, .int .i64 (((k : Int)) + 1))]) (by kernel_rfl) ?_
  refine ops_nil ?_
  have e3 : (((k : Int)) + 1 : Int) = (((k + 1) : Nat) : Int) := by omega
  refine nx_round (v32, k + 1) (proj_subE (l1 := [(0, .pointer (some ⟨b1, 0, none⟩)), (1, .pointer (some ⟨b2, 0, none⟩)), (3, v32), (52, tv), (53, .int .i64 ((m.to.length : Int))), (54, .int .i64 (((k : Int)) + 1))]) (l2 := [(0, .pointer (some ⟨b1, 0, none⟩)), (1, .pointer (some ⟨b2, 0, none⟩)), (3, v32), (52, tv), (53, .int .i64 ((m.to.length : Int))), (54, .int .i64 ((((k + 1) : Nat) : Int)))]) (by kernel_rfl) (by simp only [e3]) (by kernel_rfl)) ⟨((((((Chg.refl [] w45).to (B' := w.heap.size) (r' := []) (by omega) (by simp)).step0 h277 (by omega)).step0 c33 (by omega)).step0 c34 (by omega)).step0 c35 (by omega)), (take_snoc (ps := [Lib.itoa (m.id), m.cls, m.fr, Lib.itoa (m.at_), Lib.itoa (m.to.length : Int)]) (ls := m.to) (k := k) (by omega) ▸ h288), (show (k + 1) ≤ m.to.length by first | omega | (simp only [List.length_append, List.length_cons, List.length_nil, List.length_take, List.length_drop, List.length_map]; omega))⟩ (show m.to.length - (k + 1) < m.to.length - k by omega)
  refine at_exit (ex_seq (ex_inv (ex_here (nx_seq (at_region ?_)))))
  refine ops_run2 (l' := [(1, .pointer (some ⟨b2, 0, none⟩)), (64, v1), (65, .pointer (some ⟨b1, 5, none⟩))]) (by kernel_rfl) ?_
  have h290 := h273.keep0 h277 (by omega)
  refine ops_loadB (i := 5) (v := bv) (by kernel_rfl) (by kernel_rfl) (by kernel_rfl) (by kernel_rfl) h290 (by kernel_rfl) ?_
  have h292 := hb.keep0 c1 (by omega)
  have h293 := h292.keep0 c2 (by omega)
  have h294 := h293.keep0 h270 (by omega)
  have h295 := h294.keep0 h277 (by omega)
  refine ops_litV (e := 22) [bv] (by kernel_rfl) (by kernel_rfl) (by kernel_rfl) (by kernel_rfl) (by intro v hv; simp only [List.mem_cons, List.not_mem_nil, or_false] at hv; rcases hv with rfl; exact h295.cells1) rfl (by decide) (fun v33 w50 h291 c37 z100 => ?_)
  have z101 := c37.size
  have h296 : OwnBB w50 (w46.heap.size) v33 [m.body] := ownBB_lit rfl h291 c37 ⟨ElB.of h295 h295.hi_le (by simp), trivial⟩
  have h297 := h278.keep0 c37
  have h299 := h295.keep0 c37 (by omega)
  refine ops_appendBB (e := 22) (by_ := 24) (l1 := ([Lib.itoa (m.id), m.cls, m.fr, Lib.itoa (m.at_), Lib.itoa (m.to.length : Int)] ++ m.to.take k)) (l2 := [m.body]) (by kernel_rfl) (by kernel_rfl) (by kernel_rfl) (by kernel_rfl) (by kernel_rfl) (by kernel_rfl) (by kernel_rfl) h297 h291.1.sl ⟨ElB.of h299 h299.hi_le (fun b hb => by have := (OwnBB.slice h278) b hb; omega), trivial⟩ (by intro u hu; simp only [List.mem_cons, List.not_mem_nil, or_false] at hu; subst hu; exact sl_one h299) (by first | omega | (simp only [List.length_append, List.length_cons, List.length_nil, List.length_take, List.length_drop, List.length_map]; omega)) (by first | omega | (simp only [List.length_append, List.length_cons, List.length_nil, List.length_take, List.length_drop, List.length_map]; omega)) (fun v34 w51 h298 c38 c39 => ?_)
  have z102 := c38.size
  have h301 := hg.keep0 c1 (by omega)
  have h302 := h301.keep0 c2 (by omega)
  have h303 := h302.keep0 h270 (by omega)
  have h304 := h303.keep0 h277 (by omega)
  have h305 := h304.keep0 c37 (by omega)
  have h306 := h305.keep0 c38 (by omega)
  refine ops_callr (by kernel_rfl) (by kernel_rfl) (by kernel_rfl) (put_ok h298.bbs (Nat.le_refl _) (by simp only [List.length_append, List.length_cons, List.length_nil, List.length_take]; omega) (by rw [List.take_of_length_le (by omega)]; exact hsh) h306) ?_
  rintro v35 w52 ⟨h300, c40⟩
  have z103 := c40.size
  have h307 := hb2.keep0 c1 (by omega)
  have h308 := h307.keep0 c2 (by omega)
  have h309 := h308.keep0 h270 (by omega)
  have h310 := h309.keep0 h277 (by omega)
  have h311 := h310.keep0 c37 (by omega)
  have h312 := h311.keep0 c38 (by omega)
  have h313 := h312.keep0 c40 (by omega)
  refine ops_store (i := 0) (v := v35) [v35] (by kernel_rfl) (by kernel_rfl) (by kernel_rfl) (by kernel_rfl) h300.sl.one (by kernel_rfl) h313 (by kernel_rfl) (by kernel_rfl) (fun w53 h314 c41 z104 => ?_)
  have z105 := c41.size
  refine ops_nil ?_
  refine nx_ret (rs := []) (vs := []) rfl (by kernel_rfl) ?_
  have h315 := h300.keep c41 (by omega) (fun b _ _ => by simp only [List.mem_cons, List.not_mem_nil, or_false, not_or]; omega)
  have hres := h315.sl
  rw [List.take_of_length_le (by omega : m.to.length ≤ k)] at hres
  exact .inl ⟨_, rfl, ⟨hmp, _, h314, hres.wide (by omega) (Nat.le_refl _) (Nat.le_refl _)⟩, (((((((((Chg.refl [b2] w).step0 c1 (by omega)).step0 c2 (by omega)).step0 h270 (by omega)).step0 h277 (by omega)).step0 c37 (by omega)).step0 c38 (by omega)).step0 c40 (by omega)).step c41 (by omega) (by intro y hy; simp only [List.mem_cons, List.not_mem_nil, or_false, false_or] at hy ⊢; try omega))⟩
  rintro ch w4 a ha ⟨q5, hch, hwq⟩
  rw [hwq]
  replace q5 := of_decide_eq_false q5
  have h316 := hb2.keep0 c1 (by omega)
  have h317 := h316.keep0 c2 (by omega)
  exact out_panic ha (.inr ⟨_, rfl, hch, ⟨fun hk => (by rcases hk with ⟨g1, g2, g3, g4⟩; first | omega | contradiction), h317⟩, (((Chg.refl [b2] w).step0 c1 (by omega)).step0 c2 (by omega))⟩)
  rw [show (decide ((m.id : Int) ≤ (1099511627776 : Int))) = false from decide_eq_false q4]
  refine ops_run4 (l' := [(0, .pointer (some ⟨b1, 0, none⟩)), (1, .pointer (some ⟨b2, 0, none⟩)), (25, .bool false)]) (by kernel_rfl) ?_
  refine ops_callp (by kernel_rfl) (by kernel_rfl) (by kernel_rfl) (entry_must (false) w1) (fun v w' h => by cases h.1) ?_
  rintro ch w54 a ha ⟨q7, hch, hwq⟩
  rw [hwq]
  have h318 := hb2.keep0 c1 (by omega)
  exact out_panic ha (.inr ⟨_, rfl, hch, ⟨fun hk => (by rcases hk with ⟨g1, g2, g3, g4⟩; first | omega | contradiction), h318⟩, ((Chg.refl [b2] w).step0 c1 (by omega))⟩)
  rw [show (decide ((m.id : Int) ≥ (1 : Int))) = false from decide_eq_false q3]
  refine ops_run9 (l' := [(0, .pointer (some ⟨b1, 0, none⟩)), (1, .pointer (some ⟨b2, 0, none⟩)), (25, .bool false)]) (by kernel_rfl) ?_
  refine ops_callp (by kernel_rfl) (by kernel_rfl) (by kernel_rfl) (entry_must (false) w1) (fun v w' h => by cases h.1) ?_
  rintro ch w55 a ha ⟨q8, hch, hwq⟩
  rw [hwq]
  have h319 := hb2.keep0 c1 (by omega)
  exact out_panic ha (.inr ⟨_, rfl, hch, ⟨fun hk => (by rcases hk with ⟨g1, g2, g3, g4⟩; first | omega | contradiction), h319⟩, ((Chg.refl [b2] w).step0 c1 (by omega))⟩)
  rw [if_neg q1]
  have hnck := q1
  refine ops_run1 (l' := [(0, .pointer (some ⟨b1, 0, none⟩)), (1, .pointer (some ⟨b2, 0, none⟩)), (11, .bool false)]) (by kernel_rfl) ?_
  refine ops_callp (by kernel_rfl) (by kernel_rfl) (by kernel_rfl) (entry_must (false) w1) (fun v w' h => by cases h.1) ?_
  rintro ch w56 a ha ⟨q9, hch, hwq⟩
  rw [hwq]
  have h320 := hb2.keep0 c1 (by omega)
  exact out_panic ha (.inr ⟨_, rfl, hch, ⟨fun hk => (by rcases hk with ⟨g1, g2, g3, g4⟩; first | omega | contradiction), h320⟩, ((Chg.refl [b2] w).step0 c1 (by omega))⟩)
theorem encode_ok {w : World} (m : Msg) {lo hi : Nat} {tv : Value} (ht : Ss w lo hi tv m.to) {lo2 hi2 : Nat} {bv : Value} (hb : Bs w lo2 hi2 bv m.body) (hfr : m.fr.length < 4294967281) (hto : ∀ s, s ∈ m.to → s.length < 4294967281) (hcl : m.cls.length < 4294967281) (hid : m.id ≤ 9223372036854775807) (hat : m.at_ ≤ 9223372036854775807) (hg : Gl w) :
    Rt Tryd.prog 40 #[.agg #[.int .i64 m.id, S m.cls, S m.fr, tv, .int .i64 m.at_, bv]] w fun u w' => Chg [] w.heap.size w w' ∧ ((msgP m ∧ ∃ v, u = .tuple #[v, .int .i64 0] ∧ Bs w' w.heap.size w'.heap.size v (putL (partsM m))) ∨ (¬ msgP m ∧ u = .tuple #[.slice none 0 0, .int .i64 150])) := by
  have hhi := ht.hi_le
  have hhb := hb.hi_le
  have htl := ht.len_le
  have hbl := hb.len_le
  have hgs := hg.size
  refine enter (n := 8) (args := [.agg #[.int .i64 m.id, S m.cls, S m.fr, tv, .int .i64 m.at_, bv]]) Tryd.func40 rfl rfl (Nat.le_of_ble_eq_true (by kernel_rfl)) ?_
  refine at_seq (at_region ?_)
  refine ops_box (cs := [.int .i64 m.id, S m.cls, S m.fr, tv, .int .i64 m.at_, bv]) (by kernel_rfl) (by kernel_rfl) (by kernel_rfl) (fun b1 w1 e1 h1 c1 z1 => ?_)
  have z2 := c1.size
  refine ops_alloc (z := .slice none 0 0) (cs := [.slice none 0 0]) (by kernel_rfl) (by kernel_rfl) (by kernel_rfl) (by kernel_rfl) (fun b2 w2 e2 h2 c2 z3 => ?_)
  have z4 := c2.size
  refine ops_run1 (l' := [(1, .pointer (some ⟨b1, 0, none⟩)), (2, .pointer (some ⟨b2, 0, none⟩)), (3, .int .i64 0)]) (by kernel_rfl) ?_
  refine ops_nil (nx_seq (at_seq (at_region ?_)))
  refine ops_run1 (l' := [(2, .pointer (some ⟨b2, 0, none⟩)), (3, .int .i64 0), (4, .func (.func 89) #[] #[.pointer (some ⟨b1, 0, none⟩), .pointer (some ⟨b2, 0, none⟩)])]) (by kernel_rfl) ?_
  have h3 := ht.keep0 c1 (by omega)
  have h4 := h3.keep0 c2 (by omega)
  have h5 := hb.keep0 c1 (by omega)
  have h6 := h5.keep0 c2 (by omega)
  have h7 := hg.keep0 c1 (by omega)
  have h8 := h7.keep0 c2 (by omega)
  have h9 := h1.keep0 c2 (by omega)
  refine ops_callr (by kernel_rfl) (by kernel_rfl) (by kernel_rfl) (entry_caught 89 [.pointer (some ⟨b1, 0, none⟩), .pointer (some ⟨b2, 0, none⟩)] (fun _ _ => rfl) (fun W => msgP m ∧ ∃ v, Blk W b2 [v] 22 ∧ Bs W (w2.heap.size + 1) W.heap.size v (putL (partsM m))) (fun W => ¬ msgP m ∧ Blk W b2 [.slice none 0 0] 22) [b2] w2 (by intro y hy; simp only [List.mem_cons, List.not_mem_nil, or_false] at hy <;> omega) (fun W1 C1 Z1 => (encode1_ok m (h4.keep0 C1 (by omega)) (h6.keep0 C1 (by omega)) hfr hto hcl hid hat (h8.keep0 C1 (by omega)) (h9.keep0 C1 (by omega)) (h2.keep0 C1 (by omega)) (by omega)).mono (fun VV WW HH => ⟨⟨HH.1.1, HH.1.2.choose, HH.1.2.choose_spec.1, HH.1.2.choose_spec.2.wide (lo' := w2.heap.size + 1) (by omega) (Nat.le_refl _) (Nat.le_refl _)⟩, HH.2⟩) (fun ch WW HH => HH))) ?_
  rintro _ w5 ⟨w3, w4, c3, c4, c5, (⟨rfl, h10⟩ | ⟨rfl, h10⟩)⟩
  have z5 := c3.size
  have z6 := c4.size
  obtain ⟨hmp, rv, hrb, hrs⟩ := h10
  have hrl := hrb.lt
  have z7 := c5.size
  refine ops_run1 (l' := [(2, .pointer (some ⟨b2, 0, none⟩)), (3, .int .i64 0)]) (by kernel_rfl) ?_
  refine ops_nil (nx_seq (at_seq (at_region ?_)))
  have h11 := hrb.keep1 c5 (by omega) (by omega)
  refine ops_loadB (i := 0) (v := rv) (by kernel_rfl) (by kernel_rfl) (by kernel_rfl) (by kernel_rfl) h11 (by kernel_rfl) ?_
  refine ops_run1 (l' := [(2, .pointer (some ⟨b2, 0, none⟩)), (3, .int .i64 0), (6, rv), (7, .int .i64 0)]) (by kernel_rfl) ?_
  have h13 := hrs.keep1 c5 (by omega) (by omega)
  refine ops_store (i := 0) (v := rv) [rv] (by kernel_rfl) (by kernel_rfl) (by kernel_rfl) (by kernel_rfl) h13.one (by kernel_rfl) h11 (by kernel_rfl) (by kernel_rfl) (fun w6 h12 c6 z8 => ?_)
  have z9 := c6.size
  refine ops_run1 (l' := [(2, .pointer (some ⟨b2, 0, none⟩)), (3, .int .i64 0)]) (by kernel_rfl) ?_
  refine ops_nil (nx_seq ?_)
  refine at_retV (rs := [.cell 2 22, .tmp 3]) (vs := [rv, .int .i64 0]) rfl (ResV.cell (by kernel_rfl) h12 (by kernel_rfl) (ResV.tmp (by kernel_rfl) ResV.nil)) ?_
  have h14 := h13.keep1 c6 (by omega) (by omega)
  exact ⟨_, rfl, (((((((Chg.refl [] w).step0 c1 (by omega)).step0 c2 (by omega)).step0 c3 (by omega)).step c4 (by omega) (by intro y hy; simp only [List.mem_cons, List.not_mem_nil, or_false, false_or] at hy ⊢; try omega)).step c5 (by omega) (by intro y hy; simp only [List.mem_cons, List.not_mem_nil, or_false, false_or] at hy ⊢; try omega)).step c6 (by omega) (by intro y hy; simp only [List.mem_cons, List.not_mem_nil, or_false, false_or] at hy ⊢; try omega)), .inl ⟨hmp, _, rfl, h14.wide (by omega) (by omega) (by omega)⟩⟩
  have z10 := c3.size
  have z11 := c4.size
  obtain ⟨hmp, hrb⟩ := h10
  have hrl := hrb.lt
  have z12 := c5.size
  refine ops_run1 (l' := [(2, .pointer (some ⟨b2, 0, none⟩)), (3, .int .i64 150)]) (by kernel_rfl) ?_
  refine ops_nil (nx_seq (at_seq (at_region ?_)))
  have h15 := hrb.keep1 c5 (by omega) (by omega)
  refine ops_loadB (i := 0) (v := .slice none 0 0) (by kernel_rfl) (by kernel_rfl) (by kernel_rfl) (by kernel_rfl) h15 (by kernel_rfl) ?_
  refine ops_run1 (l' := [(2, .pointer (some ⟨b2, 0, none⟩)), (3, .int .i64 150), (6, .slice none 0 0), (7, .int .i64 150)]) (by kernel_rfl) ?_
  refine ops_store (i := 0) (v := .slice none 0 0) [.slice none 0 0] (by kernel_rfl) (by kernel_rfl) (by kernel_rfl) (by kernel_rfl) (by kernel_rfl) (by kernel_rfl) h15 (by kernel_rfl) (by kernel_rfl) (fun w7 h16 c7 z13 => ?_)
  have z14 := c7.size
  refine ops_run1 (l' := [(2, .pointer (some ⟨b2, 0, none⟩)), (3, .int .i64 150)]) (by kernel_rfl) ?_
  refine ops_nil (nx_seq ?_)
  refine at_retV (rs := [.cell 2 22, .tmp 3]) (vs := [.slice none 0 0, .int .i64 150]) rfl (ResV.cell (by kernel_rfl) h16 (by kernel_rfl) (ResV.tmp (by kernel_rfl) ResV.nil)) ?_
  exact ⟨_, rfl, (((((((Chg.refl [] w).step0 c1 (by omega)).step0 c2 (by omega)).step0 c3 (by omega)).step c4 (by omega) (by intro y hy; simp only [List.mem_cons, List.not_mem_nil, or_false, false_or] at hy ⊢; try omega)).step c5 (by omega) (by intro y hy; simp only [List.mem_cons, List.not_mem_nil, or_false, false_or] at hy ⊢; try omega)).step c7 (by omega) (by intro y hy; simp only [List.mem_cons, List.not_mem_nil, or_false, false_or] at hy ⊢; try omega)), .inr ⟨hmp, rfl⟩⟩

end Go.Proofs.YtnjkdnbabogcjaaDoor
