/- A walk, printed by a program of my own (wip/gen/walk.py) from a script of mine. -/
import Derived.Test.YtnjkdnbabogcjaaDoorProg
import Derived.Test.YtnjkdnbabogcjaaDoorL0
import Derived.Test.YtnjkdnbabogcjaaDoorP8
set_option maxHeartbeats 4000000
set_option linter.unusedVariables false
set_option linter.unusedSimpArgs false
set_option maxRecDepth 100000
namespace Go.Proofs.YtnjkdnbabogcjaaDoor
open Go Go.RowKit Go.Kw

theorem decode1_ok {w : World} {ba bz : Nat} {bv : Value} (hba : Blk w ba [bv] 22) (hbz : Blk w bz [.int .i64 0, S [], S [], .slice none 0 0, .int .i64 0, .slice none 0 0] 28) {lo hi : Nat} {b : Bytes} (hb : Bs w lo hi bv b) (hs : b.length ≤ 1000000) (hha : hi ≤ ba) (hhz : hi ≤ bz) (hne : ba ≠ bz) (hg : Gl w) (hN : NG ≤ bz) :
    Rp Tryd.prog 34 [.pointer (some ⟨ba, 0, none⟩), .pointer (some ⟨bz, 0, none⟩)].toArray w (fun _ w2 => (∃ (m : Msg) (tv bdv : Value), DecP m b ∧ Blk w2 bz [.int .i64 m.id, S m.cls, S m.fr, tv, .int .i64 m.at_, bdv] 28 ∧ Ss w2 w.heap.size w2.heap.size tv m.to ∧ Bs w2 w.heap.size w2.heap.size bdv m.body) ∧ Chg [bz] w.heap.size w w2) (fun ch w2 => ch = thrown 121 ∧ (NoM b ∧ ∃ c0 c1 c2 c3 c4 c5, Blk w2 bz [c0, c1, c2, c3, c4, c5] 28) ∧ Chg [bz] w.heap.size w w2) := by
  have hhi := hb.hi_le
  have hbla := hba.lt
  have hblz := hbz.lt
  have hgs := hg.size
  have hpre0 : b = putL [] ++ b := rfl
  have hsx0 : Short [] := by intro p hp; cases hp
  refine enter (n := 64) (args := [.pointer (some ⟨ba, 0, none⟩), .pointer (some ⟨bz, 0, none⟩)]) Tryd.func34 rfl rfl (Nat.le_of_ble_eq_true (by kernel_rfl)) ?_
  refine at_seq (at_region ?_)
  refine ops_loadB (i := 0) (v := bv) (by kernel_rfl) (by kernel_rfl) (by kernel_rfl) (by kernel_rfl) hba (by kernel_rfl) ?_
  refine ops_alloc (z := .slice none 0 0) (cs := [.slice none 0 0]) (by kernel_rfl) (by kernel_rfl) (by kernel_rfl) (by kernel_rfl) (fun b1 w1 e1 h1 c1 z1 => ?_)
  have z2 := c1.size
  have h3 := hb.keep0 c1 (by omega)
  refine ops_store (i := 0) (v := bv) [bv] (by kernel_rfl) (by kernel_rfl) (by kernel_rfl) (by kernel_rfl) h3.one (by kernel_rfl) h1 (by kernel_rfl) (by kernel_rfl) (fun w2 h2 c2 z3 => ?_)
  have z4 := c2.size
  refine ops_nil (nx_seq (at_seq (at_region ?_)))
  refine ops_run1 (l' := [(0, .pointer (some ⟨ba, 0, none⟩)), (1, .pointer (some ⟨bz, 0, none⟩)), (9, .func (.func 35) #[] #[.pointer (some ⟨b1, 0, none⟩)])]) (by kernel_rfl) ?_
  refine ops_alloc (z := .nilFunc) (cs := [.nilFunc]) (by kernel_rfl) (by kernel_rfl) (by kernel_rfl) (by kernel_rfl) (fun b2 w3 e2 h4 c3 z5 => ?_)
  have z6 := c3.size
  refine ops_store (i := 0) (v := .func (.func 35) #[] #[.pointer (some ⟨b1, 0, none⟩)]) [.func (.func 35) #[] #[.pointer (some ⟨b1, 0, none⟩)]] (by kernel_rfl) (by kernel_rfl) (by kernel_rfl) (by kernel_rfl) (by kernel_rfl) (by kernel_rfl) h4 (by kernel_rfl) (by kernel_rfl) (fun w4 h5 c4 z7 => ?_)
  have z8 := c4.size
  refine ops_nil (nx_seq (at_seq (at_region ?_)))
  refine ops_run2 (l' := [(0, .pointer (some ⟨ba, 0, none⟩)), (1, .pointer (some ⟨bz, 0, none⟩)), (3, .pointer (some ⟨b2, 0, none⟩)), (4, .func (.func 38) #[] #[.pointer (some ⟨b2, 0, none⟩)])]) (by kernel_rfl) ?_
  refine ops_nil (nx_seq (at_seq ?_))
  have h6 := hba.keep0 c1 (by omega)
  have h7 := h6.keep1 c2 (by omega) (by omega)
  have h8 := h7.keep0 c3 (by omega)
  have h9 := h8.keep1 c4 (by omega) (by omega)
  refine at_draw (m := 18) (listed := (bm 18 0)) (fun W => Blk W ba [bv] 22 ∧ Blk W b2 [.func (.func 35) #[] #[.pointer (some ⟨b1, 0, none⟩)]] 73 ∧ True) (by kernel_rfl) (by kernel_rfl) (by kernel_rfl) (fun w5 c5 z9 _ _ => ?_)
  have z10 := c5.size
  have h10 := h9.keep0 c5 (by omega)
  have h11 := h5.keep0 c5 (by omega)
  refine ⟨⟨h10, h11, trivial⟩, ?_⟩
  refine any_takes [0] (fuel' := 17) (listed' := (bm 18 1)) (l' := [(0, .pointer (some ⟨ba, 0, none⟩)), (1, .pointer (some ⟨bz, 0, none⟩)), (3, .pointer (some ⟨b2, 0, none⟩)), (4, .func (.func 38) #[] #[.pointer (some ⟨b2, 0, none⟩)]), (11, .func (.func 38) #[] #[.pointer (some ⟨b2, 0, none⟩)])]) panK_FB (by kernel_rfl) (by kernel_rfl) (by kernel_rfl) ?_
  refine any_load (i := 2) (j := 0) (listed' := (bm 18 5)) (v := .func (.func 35) #[] #[.pointer (some ⟨b1, 0, none⟩)]) panK_FB (by kernel_rfl) rfl (by kernel_rfl) (by kernel_rfl) (by kernel_rfl) (by kernel_rfl) (by kernel_rfl) (by kernel_rfl) (fun W hW => hW.2.1) (by kernel_rfl) ?_
  refine any_load (i := 4) (j := 0) (listed' := (bm 18 21)) (v := .func (.func 35) #[] #[.pointer (some ⟨b1, 0, none⟩)]) panK_FB (by kernel_rfl) rfl (by kernel_rfl) (by kernel_rfl) (by kernel_rfl) (by kernel_rfl) (by kernel_rfl) (by kernel_rfl) (fun W hW => hW.2.1) (by kernel_rfl) ?_
  refine any_takes [6] (fuel' := 14) (listed' := (bm 18 85)) (l' := [(0, .pointer (some ⟨ba, 0, none⟩)), (1, .pointer (some ⟨bz, 0, none⟩)), (3, .pointer (some ⟨b2, 0, none⟩)), (4, .func (.func 38) #[] #[.pointer (some ⟨b2, 0, none⟩)]), (11, .func (.func 38) #[] #[.pointer (some ⟨b2, 0, none⟩)]), (13, .func (.func 35) #[] #[.pointer (some ⟨b1, 0, none⟩)]), (15, .func (.func 35) #[] #[.pointer (some ⟨b1, 0, none⟩)]), (17, .func (.func 38) #[] #[.pointer (some ⟨b2, 0, none⟩)])]) panK_FB (by kernel_rfl) (by kernel_rfl) (by kernel_rfl) ?_
  refine any_1 1 (bm 18 87) (by kernel_rfl) rfl (by kernel_rfl) ?_
  have h12 := h2.keep0 c3 (by omega)
  have h13 := h12.keep1 c4 (by omega) (by omega)
  have h14 := h13.keep0 c5 (by omega)
  have h15 := h3.keep1 c2 (by omega) (by omega)
  have h16 := h15.keep0 c3 (by omega)
  have h17 := h16.keep1 c4 (by omega) (by omega)
  have h18 := h17.keep0 c5 (by omega)
  have h22 := hg.keep0 c1 (by omega)
  have h23 := h22.keep c2 (by omega) (by intro y hy; simp only [List.mem_cons, List.not_mem_nil, or_false]; omega)
  have h24 := h23.keep0 c3 (by omega)
  have h25 := h24.keep c4 (by omega) (by intro y hy; simp only [List.mem_cons, List.not_mem_nil, or_false]; omega)
  have h26 := h25.keep0 c5 (by omega)
  refine ops_callp (by kernel_rfl) (by kernel_rfl) (by kernel_rfl) (dnumber_ok h11 h14 h18 (by omega) (by omega) h26 (by omega)) ?_ ?_
  rintro _ w6 ⟨n1, x1, r1, v1, h19, hp1, rfl, h20, h21, c6⟩
  have z11 := c6.size
  have hpre1 : b = putL ([x1]) ++ r1 := by rw [hpre0, h19.2, ← List.append_assoc, ← putL_snoc]; try rfl
  have hsx1 : Short ([x1]) := short_snoc hsx0 h19.1
  have rl1 := cut_len h19
  have rg1 := parse_range hp1
  refine ops_nil ?_
  have h27 := h10.keep1 c6 (by omega) (by omega)
  have h28 := h11.keep1 c6 (by omega) (by omega)
  refine nx_any ⟨h27, h28, trivial⟩ ?_
  refine any_1 3 (bm 18 95) (by kernel_rfl) rfl (by kernel_rfl) ?_
  refine ops_callp (by kernel_rfl) (by kernel_rfl) (by kernel_rfl) (text_ok h20 h21 (by omega) (by omega) ) ?_ ?_
  rintro _ w7 ⟨x2, r2, v2, h29, rfl, h30, h31, c7⟩
  have z12 := c7.size
  have hpre2 : b = putL ([x1, x2]) ++ r2 := by rw [hpre1, h29.2, ← List.append_assoc, ← putL_snoc]; try rfl
  have hsx2 : Short ([x1, x2]) := short_snoc hsx1 h29.1
  have rl2 := cut_len h29
  refine ops_nil ?_
  have h32 := h27.keep1 c7 (by omega) (by omega)
  have h33 := h28.keep1 c7 (by omega) (by omega)
  refine nx_any ⟨h32, h33, trivial⟩ ?_
  refine any_1 5 (bm 18 127) (by kernel_rfl) rfl (by kernel_rfl) ?_
  refine ops_callp (by kernel_rfl) (by kernel_rfl) (by kernel_rfl) (text_ok h30 h31 (by omega) (by omega) ) ?_ ?_
  rintro _ w8 ⟨x3, r3, v3, h34, rfl, h35, h36, c8⟩
  have z13 := c8.size
  have hpre3 : b = putL ([x1, x2, x3]) ++ r3 := by rw [hpre2, h34.2, ← List.append_assoc, ← putL_snoc]; try rfl
  have hsx3 : Short ([x1, x2, x3]) := short_snoc hsx2 h34.1
  have rl3 := cut_len h34
  refine ops_nil ?_
  have h37 := h32.keep1 c8 (by omega) (by omega)
  have h38 := h33.keep1 c8 (by omega) (by omega)
  refine nx_any ⟨h37, h38, trivial⟩ ?_
  refine any_1 7 (bm 18 255) (by kernel_rfl) rfl (by kernel_rfl) ?_
  have h42 := h26.keep c6 (by omega) (by intro y hy; simp only [List.mem_cons, List.not_mem_nil, or_false]; omega)
  have h43 := h42.keep c7 (by omega) (by intro y hy; simp only [List.mem_cons, List.not_mem_nil, or_false]; omega)
  have h44 := h43.keep c8 (by omega) (by intro y hy; simp only [List.mem_cons, List.not_mem_nil, or_false]; omega)
  refine ops_callp (by kernel_rfl) (by kernel_rfl) (by kernel_rfl) (dnumber_ok h38 h35 h36 (by omega) (by omega) h44 (by omega)) ?_ ?_
  rintro _ w9 ⟨n2, x4, r4, v4, h39, hp2, rfl, h40, h41, c9⟩
  have z14 := c9.size
  have hpre4 : b = putL ([x1, x2, x3, x4]) ++ r4 := by rw [hpre3, h39.2, ← List.append_assoc, ← putL_snoc]; try rfl
  have hsx4 : Short ([x1, x2, x3, x4]) := short_snoc hsx3 h39.1
  have rl4 := cut_len h39
  have rg2 := parse_range hp2
  refine ops_nil ?_
  have h45 := h37.keep1 c9 (by omega) (by omega)
  have h46 := h38.keep1 c9 (by omega) (by omega)
  refine nx_any ⟨h45, h46, trivial⟩ ?_
  refine any_takes [8] (fuel' := 9) (listed' := (bm 18 511)) (l' := [(0, .pointer (some ⟨ba, 0, none⟩)), (1, .pointer (some ⟨bz, 0, none⟩)), (3, .pointer (some ⟨b2, 0, none⟩)), (4, .func (.func 38) #[] #[.pointer (some ⟨b2, 0, none⟩)]), (12, .int .i64 n1), (14, S x2), (16, S x3), (18, .int .i64 n2), (19, .pointer (some ⟨bz, 0, none⟩))]) panK_FB (by kernel_rfl) (by kernel_rfl) (by kernel_rfl) ?_
  refine any_1 9 (bm 18 1023) (by kernel_rfl) rfl (by kernel_rfl) ?_
  have h47 := hbz.keep0 c1 (by omega)
  have h48 := h47.keep1 c2 (by omega) (by omega)
  have h49 := h48.keep0 c3 (by omega)
  have h50 := h49.keep1 c4 (by omega) (by omega)
  have h51 := h50.keep0 c5 (by omega)
  have h52 := h51.keep1 c6 (by omega) (by omega)
  have h53 := h52.keep1 c7 (by omega) (by omega)
  have h54 := h53.keep1 c8 (by omega) (by omega)
  have h55 := h54.keep1 c9 (by omega) (by omega)
  refine ops_store (i := 0) (v := .int .i64 n1) [.int .i64 n1, S [], S [], .slice none 0 0, .int .i64 0, .slice none 0 0] (by kernel_rfl) (by kernel_rfl) (by kernel_rfl) (by kernel_rfl) (by kernel_rfl) (by kernel_rfl) h55 (by kernel_rfl) (by kernel_rfl) (fun w10 h56 c10 z15 => ?_)
  have z16 := c10.size
  refine ops_nil ?_
  have h57 := h45.keep1 c10 (by omega) (by omega)
  have h58 := h46.keep1 c10 (by omega) (by omega)
  refine nx_any ⟨h57, h58, trivial⟩ ?_
  refine any_takes [10] (fuel' := 7) (listed' := (bm 18 2047)) (l' := [(0, .pointer (some ⟨ba, 0, none⟩)), (1, .pointer (some ⟨bz, 0, none⟩)), (3, .pointer (some ⟨b2, 0, none⟩)), (4, .func (.func 38) #[] #[.pointer (some ⟨b2, 0, none⟩)]), (14, S x2), (16, S x3), (18, .int .i64 n2), (20, .pointer (some ⟨bz, 1, none⟩))]) panK_FB (by kernel_rfl) (by kernel_rfl) (by kernel_rfl) ?_
  refine any_1 11 (bm 18 4095) (by kernel_rfl) rfl (by kernel_rfl) ?_
  refine ops_store (i := 1) (v := S x2) [.int .i64 n1, S x2, S [], .slice none 0 0, .int .i64 0, .slice none 0 0] (by kernel_rfl) (by kernel_rfl) (by kernel_rfl) (by kernel_rfl) (by kernel_rfl) (by kernel_rfl) h56 (by kernel_rfl) (by kernel_rfl) (fun w11 h59 c11 z17 => ?_)
  have z18 := c11.size
  refine ops_nil ?_
  have h60 := h57.keep1 c11 (by omega) (by omega)
  have h61 := h58.keep1 c11 (by omega) (by omega)
  refine nx_any ⟨h60, h61, trivial⟩ ?_
  refine any_takes [12, 13] (fuel' := 4) (listed' := (bm 18 16383)) (l' := [(0, .pointer (some ⟨ba, 0, none⟩)), (1, .pointer (some ⟨bz, 0, none⟩)), (3, .pointer (some ⟨b2, 0, none⟩)), (4, .func (.func 38) #[] #[.pointer (some ⟨b2, 0, none⟩)]), (16, S x3), (18, .int .i64 n2), (22, .pointer (some ⟨bz, 2, none⟩))]) panK_FB (by kernel_rfl) (by kernel_rfl) (by kernel_rfl) ?_
  refine any_1 14 (bm 18 32767) (by kernel_rfl) rfl (by kernel_rfl) ?_
  refine ops_store (i := 2) (v := S x3) [.int .i64 n1, S x2, S x3, .slice none 0 0, .int .i64 0, .slice none 0 0] (by kernel_rfl) (by kernel_rfl) (by kernel_rfl) (by kernel_rfl) (by kernel_rfl) (by kernel_rfl) h59 (by kernel_rfl) (by kernel_rfl) (fun w12 h62 c12 z19 => ?_)
  have z20 := c12.size
  refine ops_nil ?_
  have h63 := h60.keep1 c12 (by omega) (by omega)
  have h64 := h61.keep1 c12 (by omega) (by omega)
  refine nx_any ⟨h63, h64, trivial⟩ ?_
  refine any_takes [15, 16] (fuel' := 1) (listed' := (bm 18 131071)) (l' := [(0, .pointer (some ⟨ba, 0, none⟩)), (1, .pointer (some ⟨bz, 0, none⟩)), (3, .pointer (some ⟨b2, 0, none⟩)), (4, .func (.func 38) #[] #[.pointer (some ⟨b2, 0, none⟩)]), (18, .int .i64 n2), (24, .pointer (some ⟨bz, 4, none⟩))]) panK_FB (by kernel_rfl) (by kernel_rfl) (by kernel_rfl) ?_
  refine any_1 17 (bm 18 262143) (by kernel_rfl) rfl (by kernel_rfl) ?_
  refine ops_store (i := 4) (v := .int .i64 n2) [.int .i64 n1, S x2, S x3, .slice none 0 0, .int .i64 n2, .slice none 0 0] (by kernel_rfl) (by kernel_rfl) (by kernel_rfl) (by kernel_rfl) (by kernel_rfl) (by kernel_rfl) h62 (by kernel_rfl) (by kernel_rfl) (fun w13 h65 c13 z21 => ?_)
  have z22 := c13.size
  refine ops_nil ?_
  have h66 := h63.keep1 c13 (by omega) (by omega)
  have h67 := h64.keep1 c13 (by omega) (by omega)
  refine nx_any ⟨h66, h67, trivial⟩ ?_
  refine any_done (by kernel_rfl) ?_
  refine nx_seq (at_seq (at_region ?_))
  refine ops_run1 (l' := [(0, .pointer (some ⟨ba, 0, none⟩)), (1, .pointer (some ⟨bz, 0, none⟩)), (3, .pointer (some ⟨b2, 0, none⟩)), (25, .func (.func 38) #[] #[.pointer (some ⟨b2, 0, none⟩)])]) (by kernel_rfl) ?_
  have h68 := h40.keep1 c10 (by omega) (by omega)
  have h69 := h68.keep1 c11 (by omega) (by omega)
  have h70 := h69.keep1 c12 (by omega) (by omega)
  have h71 := h70.keep1 c13 (by omega) (by omega)
  have h72 := h41.keep1 c10 (by omega) (by omega)
  have h73 := h72.keep1 c11 (by omega) (by omega)
  have h74 := h73.keep1 c12 (by omega) (by omega)
  have h75 := h74.keep1 c13 (by omega) (by omega)
  have h79 := h44.keep c9 (by omega) (by intro y hy; simp only [List.mem_cons, List.not_mem_nil, or_false]; omega)
  have h80 := h79.keep c10 (by omega) (by intro y hy; simp only [List.mem_cons, List.not_mem_nil, or_false]; omega)
  have h81 := h80.keep c11 (by omega) (by intro y hy; simp only [List.mem_cons, List.not_mem_nil, or_false]; omega)
  have h82 := h81.keep c12 (by omega) (by intro y hy; simp only [List.mem_cons, List.not_mem_nil, or_false]; omega)
  have h83 := h82.keep c13 (by omega) (by intro y hy; simp only [List.mem_cons, List.not_mem_nil, or_false]; omega)
  refine ops_callp (by kernel_rfl) (by kernel_rfl) (by kernel_rfl) (dnumber_ok h67 h71 h75 (by omega) (by omega) h83 (by omega)) ?_ ?_
  rintro _ w14 ⟨n3, x5, r5, v5, h76, hp3, rfl, h77, h78, c14⟩
  have z23 := c14.size
  have hpre5 : b = putL ([x1, x2, x3, x4, x5]) ++ r5 := by rw [hpre4, h76.2, ← List.append_assoc, ← putL_snoc]; try rfl
  have hsx5 : Short ([x1, x2, x3, x4, x5]) := short_snoc hsx4 h76.1
  have rl5 := cut_len h76
  have rg3 := parse_range hp3
  refine ops_run1 (l' := [(0, .pointer (some ⟨ba, 0, none⟩)), (1, .pointer (some ⟨bz, 0, none⟩)), (3, .pointer (some ⟨b2, 0, none⟩)), (5, .int .i64 n3)]) (by kernel_rfl) ?_
  refine ops_nil (nx_seq (at_seq (at_region ?_)))
  refine ops_run3 (l' := [(0, .pointer (some ⟨ba, 0, none⟩)), (1, .pointer (some ⟨bz, 0, none⟩)), (3, .pointer (some ⟨b2, 0, none⟩)), (5, .int .i64 n3), (29, .bool (decide ((n3 : Int) ≥ (1 : Int))))]) (by kernel_rfl) ?_
  by_cases q1 : (n3 : Int) ≥ (1 : Int)
  rw [show (decide ((n3 : Int) ≥ (1 : Int))) = true from decide_eq_true q1]
  refine ops_run3 (l' := [(0, .pointer (some ⟨ba, 0, none⟩)), (1, .pointer (some ⟨bz, 0, none⟩)), (3, .pointer (some ⟨b2, 0, none⟩)), (5, .int .i64 n3), (32, .bool (decide ((n3 : Int) ≤ (100 : Int))))]) (by kernel_rfl) ?_
  refine ops_callp (by kernel_rfl) (by kernel_rfl) (by kernel_rfl) (entry_must (decide ((n3 : Int) ≤ (100 : Int))) w14) ?_ ?_
  rintro _ w15 ⟨q2, rfl, hwq⟩
  rw [hwq]
  clear hwq w15
  replace q2 := of_decide_eq_true q2
  refine ops_nil (nx_seq (at_seq (at_seq (at_region ?_))))
  refine ops_run2 (l' := [(0, .pointer (some ⟨ba, 0, none⟩)), (1, .pointer (some ⟨bz, 0, none⟩)), (3, .pointer (some ⟨b2, 0, none⟩)), (34, .int .i64 n3), (35, .int .i64 0)]) (by kernel_rfl) ?_
  refine ops_nil (nx_seq (at_block ?_))
  have h84 := h65.keep1 c14 (by omega) (by omega)
  refine at_loop (X := Value × (List Bytes) × Value × Bytes × Nat) (fun x_ => [(0, .pointer (some ⟨ba, 0, none⟩)), (1, .pointer (some ⟨bz, 0, none⟩)), (3, .pointer (some ⟨b2, 0, none⟩)), (34, .int .i64 n3), (35, .int .i64 ((x_.2.2.2.2 : Int)))]) (fun x_ W1 => Chg [bz, b1] (w14.heap.size) w14 W1 ∧ Blk W1 bz [.int .i64 n1, S x2, S x3, x_.1, .int .i64 n2, .slice none 0 0] 28 ∧ OwnS W1 w14.heap.size x_.1 x_.2.1 ∧ Blk W1 b1 [x_.2.2.1] 22 ∧ Bs W1 lo hi x_.2.2.1 x_.2.2.2.1 ∧ ((x_.2.2.2.2 : Int) ≤ n3) ∧ (x_.2.1.length = x_.2.2.2.2) ∧ (b = putL ([x1, x2, x3, x4, x5] ++ x_.2.1) ++ x_.2.2.2.1) ∧ (Short ([x1, x2, x3, x4, x5] ++ x_.2.1)) ∧ (x_.2.2.2.1.length ≤ b.length)) (fun x_ => n3.toNat - x_.2.2.2.2) (.slice none 0 0, [], v5, r5, 0) (proj_sub [0, 1, 3, 34, 35] (by kernel_rfl)) ⟨(Chg.refl [bz, b1] w14), h84, Own.nil _ _ _ (by omega), h77, h78, (show (0 : Int) ≤ n3 by first | omega | (simp only [List.length_append, List.length_cons, List.length_nil, List.length_take, List.length_drop, List.length_map]; omega)), (show [].length = 0 by rfl), (show b = putL ([x1, x2, x3, x4, x5] ++ []) ++ r5 by exact hpre5), (show Short ([x1, x2, x3, x4, x5] ++ []) by exact hsx5), (show r5.length ≤ b.length by first | omega | (simp only [List.length_append, List.length_cons, List.length_nil, List.length_take, List.length_drop, List.length_map]; omega))⟩ ?_
  rintro ⟨tv, ts, rv, r, k⟩ w16 ⟨h85, h86, h87, h88, h89, h90, h91, h92, h93, h94⟩
  replace h85 : Chg [bz, b1] (w14.heap.size) w14 w16 := h85
  replace h86 : Blk w16 bz [.int .i64 n1, S x2, S x3, tv, .int .i64 n2, .slice none 0 0] 28 := h86
  replace h87 : OwnS w16 w14.heap.size tv ts := h87
  replace h88 : Blk w16 b1 [rv] 22 := h88
  replace h89 : Bs w16 lo hi rv r := h89
  replace h90 : ((k : Int) ≤ n3) := h90
  replace h91 : (ts.length = k) := h91
  replace h92 : (b = putL ([x1, x2, x3, x4, x5] ++ ts) ++ r) := h92
  replace h93 : (Short ([x1, x2, x3, x4, x5] ++ ts)) := h93
  replace h94 : (r.length ≤ b.length) := h94
  have z24 := h85.size
  have z25 := h86.lt
  have z26 := h88.lt
  have hbRl : b1 < w16.heap.size := by omega
  refine at_seq (at_region ?_)
  refine ops_run1 (l' := [(0, .pointer (some ⟨ba, 0, none⟩)), (1, .pointer (some ⟨bz, 0, none⟩)), (3, .pointer (some ⟨b2, 0, none⟩)), (34, .int .i64 n3), (35, .int .i64 ((k : Int))), (36, .bool (decide (((k : Int) : Int) < (n3 : Int))))]) (by kernel_rfl) ?_
  refine ops_nil (nx_seq (at_seq ?_))
  refine at_ifp (((k : Int) : Int) < (n3 : Int)) (by kernel_rfl) (fun q3 => ?_) (fun q3 => ?_)
  refine at_skip (nx_seq (at_seq (at_block ?_)))
  have h95 := h66.keep1 c14 (by omega) (by omega)
  have h96 := h95.keep h85 (by omega) (by simp only [List.mem_cons, List.not_mem_nil, or_false, not_or]; omega)
  have h97 := h67.keep1 c14 (by omega) (by omega)
  have h98 := h97.keep h85 (by omega) (by simp only [List.mem_cons, List.not_mem_nil, or_false, not_or]; omega)
  refine at_draw (m := 10) (listed := (bm 10 0)) (fun W => Blk W ba [bv] 22 ∧ Blk W b2 [.func (.func 35) #[] #[.pointer (some ⟨b1, 0, none⟩)]] 73 ∧ True) (by kernel_rfl) (by kernel_rfl) (by kernel_rfl) (fun w17 c15 z27 _ _ => ?_)
  have z28 := c15.size
  have h99 := h96.keep0 c15 (by omega)
  have h100 := h98.keep0 c15 (by omega)
  refine ⟨⟨h99, h100, trivial⟩, ?_⟩
  refine any_takes [0, 1] (fuel' := 8) (listed' := (bm 10 3)) (l' := [(0, .pointer (some ⟨ba, 0, none⟩)), (1, .pointer (some ⟨bz, 0, none⟩)), (3, .pointer (some ⟨b2, 0, none⟩)), (34, .int .i64 n3), (35, .int .i64 ((k : Int))), (38, .pointer (some ⟨bz, 3, none⟩))]) panK_FB (by kernel_rfl) (by kernel_rfl) (by kernel_rfl) ?_
  refine any_load (i := 3) (j := 0) (listed' := (bm 10 11)) (v := .func (.func 35) #[] #[.pointer (some ⟨b1, 0, none⟩)]) panK_FB (by kernel_rfl) rfl (by kernel_rfl) (by kernel_rfl) (by kernel_rfl) (by kernel_rfl) (by kernel_rfl) (by kernel_rfl) (fun W hW => hW.2.1) (by kernel_rfl) ?_
  refine any_2 2 (bm 10 15) 4 (bm 10 27) (by kernel_rfl) rfl (by kernel_rfl) rfl (by kernel_rfl) ?_ ?_
  have h101 := h86.keep0 c15 (by omega)
  refine ops_loadB (i := 3) (v := tv) (by kernel_rfl) (by kernel_rfl) (by kernel_rfl) (by kernel_rfl) h101 (by kernel_rfl) ?_
  refine ops_nil ?_
  refine nx_any ⟨h99, h100, trivial⟩ ?_
  refine any_1 4 (bm 10 31) (by kernel_rfl) rfl (by kernel_rfl) ?_
  have h102 := h88.keep0 c15 (by omega)
  have h103 := h89.keep0 c15 (by omega)
  refine ops_callp (by kernel_rfl) (by kernel_rfl) (by kernel_rfl) (text_ok h102 h103 (by omega) (by omega) ) ?_ ?_
  rintro _ w18 ⟨x6, r6, v6, h104, rfl, h105, h106, c16⟩
  have z29 := c16.size
  have hpre6 : b = putL ([x1, x2, x3, x4, x5] ++ (ts ++ [x6])) ++ r6 := by rw [h92, h104.2, ← List.append_assoc, ← putL_snoc]; try rfl
  have hsx6 : Short ([x1, x2, x3, x4, x5] ++ (ts ++ [x6])) := short_snoc h93 h104.1
  have rl6 := cut_len h104
  refine ops_nil ?_
  have h107 := h99.keep1 c16 (by omega) (by omega)
  have h108 := h100.keep1 c16 (by omega) (by omega)
  refine nx_any ⟨h107, h108, trivial⟩ ?_
  refine any_1 5 (bm 10 63) (by kernel_rfl) rfl (by kernel_rfl) ?_
  refine ops_lit (e := 9) (sz := 1) [S x6] (by kernel_rfl) (by kernel_rfl) (by kernel_rfl) rfl (by decide) (fun v7 w19 h109 c17 z30 => ?_)
  have z31 := c17.size
  replace h109 : OwnS w19 (w18.heap.size) v7 [x6] := h109.1
  refine ops_nil ?_
  have h110 := h107.keep0 c17 (by omega)
  have h111 := h108.keep0 c17 (by omega)
  refine nx_any ⟨h110, h111, trivial⟩ ?_
  refine any_1 6 (bm 10 127) (by kernel_rfl) rfl (by kernel_rfl) ?_
  have h112 := h87.keep c15 (by omega) (fun _ _ _ => by simp)
  have h113 := h112.keep c16 (by omega) (fun b _ _ => by simp only [List.mem_cons, List.not_mem_nil, or_false, not_or]; omega)
  have h114 := h113.keep c17 (by omega) (fun _ _ _ => by simp)
  refine ops_appendS (e := 9) (by_ := 16) (l1 := ts) (l2 := [x6]) (by kernel_rfl) (by kernel_rfl) (by kernel_rfl) (by kernel_rfl) (by kernel_rfl) (by kernel_rfl) (by kernel_rfl) h114 h109.sl (by first | omega | (simp only [List.length_append, List.length_cons, List.length_nil, List.length_take, List.length_drop, List.length_map]; omega)) (by first | omega | (simp only [List.length_append, List.length_cons, List.length_nil, List.length_take, List.length_drop, List.length_map]; omega)) (fun v8 w20 h115 c18 c19 => ?_)
  have z32 := c18.size
  refine ops_nil ?_
  have h116 := h110.keep0 c18 (by omega)
  have h117 := h111.keep0 c18 (by omega)
  refine nx_any ⟨h116, h117, trivial⟩ ?_
  refine any_takes [7, 8] (fuel' := 1) (listed' := (bm 10 511)) (l' := [(0, .pointer (some ⟨ba, 0, none⟩)), (1, .pointer (some ⟨bz, 0, none⟩)), (3, .pointer (some ⟨b2, 0, none⟩)), (34, .int .i64 n3), (35, .int .i64 ((k : Int))), (43, v8), (45, .pointer (some ⟨bz, 3, none⟩))]) panK_FB (by kernel_rfl) (by kernel_rfl) (by kernel_rfl) ?_
  refine any_1 9 (bm 10 1023) (by kernel_rfl) rfl (by kernel_rfl) ?_
  have h118 := h101.keep1 c16 (by omega) (by omega)
  have h119 := h118.keep0 c17 (by omega)
  have h120 := h119.keep0 c18 (by omega)
  refine ops_store (i := 3) (v := v8) [.int .i64 n1, S x2, S x3, v8, .int .i64 n2, .slice none 0 0] (by kernel_rfl) (by kernel_rfl) (by kernel_rfl) (by kernel_rfl) h115.sl.one (by kernel_rfl) h120 (by kernel_rfl) (by kernel_rfl) (fun w21 h121 c20 z33 => ?_)
  have z34 := c20.size
  refine ops_nil ?_
  have h122 := h116.keep1 c20 (by omega) (by omega)
  have h123 := h117.keep1 c20 (by omega) (by omega)
  refine nx_any ⟨h122, h123, trivial⟩ ?_
  refine any_done (by kernel_rfl) ?_
  refine nx_blk (nx_seq (at_region ?_))
  refine ops_add (a := (k : Int)) (b := 1) (kd := .i64) (by kernel_rfl) (by kernel_rfl) (by kernel_rfl) (by kernel_rfl) (show (-9223372036854775808 : Int) ≤ ((k : Int)) + 1 by omega) (show ((k : Int)) + 1 ≤ (9223372036854775807 : Int) by omega) ?_
  refine ops_run1 (l' := [(0, .pointer (some ⟨ba, 0, none⟩)), (1, .pointer (some ⟨bz, 0, none⟩)), (3, .pointer (some ⟨b2, 0, none⟩)), (34, .int .i64 n3), (35, .int .i64 (((k : Int)) + 1))]) (by kernel_rfl) ?_
  refine ops_nil ?_
  have h124 := h115.keep c20 (by omega) (fun b _ _ => by simp only [List.mem_cons, List.not_mem_nil, or_false, not_or]; omega)
  have h125 := h105.keep0 c17 (by omega)
  have h126 := h125.keep0 c18 (by omega)
  have h127 := h126.keep1 c20 (by omega) (by omega)
  have h128 := h106.keep0 c17 (by omega)
  have h129 := h128.keep0 c18 (by omega)
  have h130 := h129.keep1 c20 (by omega) (by omega)
  refine nx_round (v8, ts ++ [x6], v6, r6, (k) + 1) (proj_sub [0, 1, 3, 34, 35] (by kernel_rfl)) ⟨(((((((Chg.refl [bz, b1] w14).step h85 (by omega) (by intro y hy; simp only [List.mem_cons, List.not_mem_nil, or_false, false_or] at hy ⊢; try omega)).step0 c15 (by omega)).step c16 (by omega) (by intro y hy; simp only [List.mem_cons, List.not_mem_nil, or_false, false_or] at hy ⊢; try omega)).step0 c17 (by omega)).step0 c18 (by omega)).step c20 (by omega) (by intro y hy; simp only [List.mem_cons, List.not_mem_nil, or_false, false_or] at hy ⊢; try omega)), h121, h124, h127, h130, (show (((k) + 1) : Int) ≤ n3 by first | omega | (simp only [List.length_append, List.length_cons, List.length_nil, List.length_take, List.length_drop, List.length_map]; omega)), (show (ts ++ [x6]).length = ((k) + 1) by first | omega | (simp only [List.length_append, List.length_cons, List.length_nil, List.length_take, List.length_drop, List.length_map]; omega)), (show b = putL ([x1, x2, x3, x4, x5] ++ (ts ++ [x6])) ++ r6 by exact hpre6), (show Short ([x1, x2, x3, x4, x5] ++ (ts ++ [x6])) by exact hsx6), (show r6.length ≤ b.length by first | omega | (simp only [List.length_append, List.length_cons, List.length_nil, List.length_take, List.length_drop, List.length_map]; omega))⟩ (show n3.toNat - ((k) + 1) < n3.toNat - k by omega)
  rintro ch w18 a ha ⟨hch, hno, c16⟩
  have z35 := c16.size
  have h131 := h101.keep1 c16 (by omega) (by omega)
  exact out_panic ha (.inr ⟨_, rfl, hch, ⟨no_text hno h93 h92 (fun m hm => (by have := dec_count hm h93 h92 hp3; rw [partsM_len]; simp only [List.length_append, List.length_cons, List.length_nil]; omega)), _, _, _, _, _, _, h131⟩, ((((((((((((((((((Chg.refl [bz] w).step0 c1 (by omega)).step c2 (by omega) (by intro y hy; simp only [List.mem_cons, List.not_mem_nil, or_false, false_or] at hy ⊢; try omega)).step0 c3 (by omega)).step c4 (by omega) (by intro y hy; simp only [List.mem_cons, List.not_mem_nil, or_false, false_or] at hy ⊢; try omega)).step0 c5 (by omega)).step c6 (by omega) (by intro y hy; simp only [List.mem_cons, List.not_mem_nil, or_false, false_or] at hy ⊢; try omega)).step c7 (by omega) (by intro y hy; simp only [List.mem_cons, List.not_mem_nil, or_false, false_or] at hy ⊢; try omega)).step c8 (by omega) (by intro y hy; simp only [List.mem_cons, List.not_mem_nil, or_false, false_or] at hy ⊢; try omega)).step c9 (by omega) (by intro y hy; simp only [List.mem_cons, List.not_mem_nil, or_false, false_or] at hy ⊢; try omega)).step c10 (by omega) (by intro y hy; simp only [List.mem_cons, List.not_mem_nil, or_false, false_or] at hy ⊢; try omega)).step c11 (by omega) (by intro y hy; simp only [List.mem_cons, List.not_mem_nil, or_false, false_or] at hy ⊢; try omega)).step c12 (by omega) (by intro y hy; simp only [List.mem_cons, List.not_mem_nil, or_false, false_or] at hy ⊢; try omega)).step c13 (by omega) (by intro y hy; simp only [List.mem_cons, List.not_mem_nil, or_false, false_or] at hy ⊢; try omega)).step c14 (by omega) (by intro y hy; simp only [List.mem_cons, List.not_mem_nil, or_false, false_or] at hy ⊢; try omega)).step h85 (by omega) (by intro y hy; simp only [List.mem_cons, List.not_mem_nil, or_false, false_or] at hy ⊢; try omega)).step0 c15 (by omega)).step c16 (by omega) (by intro y hy; simp only [List.mem_cons, List.not_mem_nil, or_false, false_or] at hy ⊢; try omega))⟩)
  have h132 := h88.keep0 c15 (by omega)
  have h133 := h89.keep0 c15 (by omega)
  refine ops_callp (by kernel_rfl) (by kernel_rfl) (by kernel_rfl) (text_ok h132 h133 (by omega) (by omega) ) ?_ ?_
  rintro _ w22 ⟨x7, r7, v9, h134, rfl, h135, h136, c21⟩
  have z36 := c21.size
  have hpre7 : b = putL ([x1, x2, x3, x4, x5] ++ (ts ++ [x7])) ++ r7 := by rw [h92, h134.2, ← List.append_assoc, ← putL_snoc]; try rfl
  have hsx7 : Short ([x1, x2, x3, x4, x5] ++ (ts ++ [x7])) := short_snoc h93 h134.1
  have rl7 := cut_len h134
  refine ops_nil ?_
  have h137 := h99.keep1 c21 (by omega) (by omega)
  have h138 := h100.keep1 c21 (by omega) (by omega)
  refine nx_any ⟨h137, h138, trivial⟩ ?_
  refine any_2 2 (bm 10 31) 5 (bm 10 59) (by kernel_rfl) rfl (by kernel_rfl) rfl (by kernel_rfl) ?_ ?_
  have h139 := h86.keep0 c15 (by omega)
  have h140 := h139.keep1 c21 (by omega) (by omega)
  refine ops_loadB (i := 3) (v := tv) (by kernel_rfl) (by kernel_rfl) (by kernel_rfl) (by kernel_rfl) h140 (by kernel_rfl) ?_
  refine ops_nil ?_
  refine nx_any ⟨h137, h138, trivial⟩ ?_
  refine any_1 5 (bm 10 63) (by kernel_rfl) rfl (by kernel_rfl) ?_
  refine ops_lit (e := 9) (sz := 1) [S x7] (by kernel_rfl) (by kernel_rfl) (by kernel_rfl) rfl (by decide) (fun v10 w23 h141 c22 z37 => ?_)
  have z38 := c22.size
  replace h141 : OwnS w23 (w22.heap.size) v10 [x7] := h141.1
  refine ops_nil ?_
  have h142 := h137.keep0 c22 (by omega)
  have h143 := h138.keep0 c22 (by omega)
  refine nx_any ⟨h142, h143, trivial⟩ ?_
  refine any_1 6 (bm 10 127) (by kernel_rfl) rfl (by kernel_rfl) ?_
  have h144 := h87.keep c15 (by omega) (fun _ _ _ => by simp)
  have h145 := h144.keep c21 (by omega) (fun b _ _ => by simp only [List.mem_cons, List.not_mem_nil, or_false, not_or]; omega)
  have h146 := h145.keep c22 (by omega) (fun _ _ _ => by simp)
  refine ops_appendS (e := 9) (by_ := 16) (l1 := ts) (l2 := [x7]) (by kernel_rfl) (by kernel_rfl) (by kernel_rfl) (by kernel_rfl) (by kernel_rfl) (by kernel_rfl) (by kernel_rfl) h146 h141.sl (by first | omega | (simp only [List.length_append, List.length_cons, List.length_nil, List.length_take, List.length_drop, List.length_map]; omega)) (by first | omega | (simp only [List.length_append, List.length_cons, List.length_nil, List.length_take, List.length_drop, List.length_map]; omega)) (fun v11 w24 h147 c23 c24 => ?_)
  have z39 := c23.size
  refine ops_nil ?_
  have h148 := h142.keep0 c23 (by omega)
  have h149 := h143.keep0 c23 (by omega)
  refine nx_any ⟨h148, h149, trivial⟩ ?_
  refine any_takes [7, 8] (fuel' := 1) (listed' := (bm 10 511)) (l' := [(0, .pointer (some ⟨ba, 0, none⟩)), (1, .pointer (some ⟨bz, 0, none⟩)), (3, .pointer (some ⟨b2, 0, none⟩)), (34, .int .i64 n3), (35, .int .i64 ((k : Int))), (43, v11), (45, .pointer (some ⟨bz, 3, none⟩))]) panK_FB (by kernel_rfl) (by kernel_rfl) (by kernel_rfl) ?_
  refine any_1 9 (bm 10 1023) (by kernel_rfl) rfl (by kernel_rfl) ?_
  have h150 := h140.keep0 c22 (by omega)
  have h151 := h150.keep0 c23 (by omega)
  refine ops_store (i := 3) (v := v11) [.int .i64 n1, S x2, S x3, v11, .int .i64 n2, .slice none 0 0] (by kernel_rfl) (by kernel_rfl) (by kernel_rfl) (by kernel_rfl) h147.sl.one (by kernel_rfl) h151 (by kernel_rfl) (by kernel_rfl) (fun w25 h152 c25 z40 => ?_)
  have z41 := c25.size
  refine ops_nil ?_
  have h153 := h148.keep1 c25 (by omega) (by omega)
  have h154 := h149.keep1 c25 (by omega) (by omega)
  refine nx_any ⟨h153, h154, trivial⟩ ?_
  refine any_done (by kernel_rfl) ?_
  refine nx_blk (nx_seq (at_region ?_))
  refine ops_add (a := (k : Int)) (b := 1) (kd := .i64) (by kernel_rfl) (by kernel_rfl) (by kernel_rfl) (by kernel_rfl) (show (-9223372036854775808 : Int) ≤ ((k : Int)) + 1 by omega) (show ((k : Int)) + 1 ≤ (9223372036854775807 : Int) by omega) ?_
  refine ops_run1 (l' := [(0, .pointer (some ⟨ba, 0, none⟩)), (1, .pointer (some ⟨bz, 0, none⟩)), (3, .pointer (some ⟨b2, 0, none⟩)), (34, .int .i64 n3), (35, .int .i64 (((k : Int)) + 1))]) (by kernel_rfl) ?_
  refine ops_nil ?_
  have h155 := h147.keep c25 (by omega) (fun b _ _ => by simp only [List.mem_cons, List.not_mem_nil, or_false, not_or]; omega)
  have h156 := h135.keep0 c22 (by omega)
  have h157 := h156.keep0 c23 (by omega)
  have h158 := h157.keep1 c25 (by omega) (by omega)
  have h159 := h136.keep0 c22 (by omega)
  have h160 := h159.keep0 c23 (by omega)
  have h161 := h160.keep1 c25 (by omega) (by omega)
  refine nx_round (v11, ts ++ [x7], v9, r7, (k) + 1) (proj_sub [0, 1, 3, 34, 35] (by kernel_rfl)) ⟨(((((((Chg.refl [bz, b1] w14).step h85 (by omega) (by intro y hy; simp only [List.mem_cons, List.not_mem_nil, or_false, false_or] at hy ⊢; try omega)).step0 c15 (by omega)).step c21 (by omega) (by intro y hy; simp only [List.mem_cons, List.not_mem_nil, or_false, false_or] at hy ⊢; try omega)).step0 c22 (by omega)).step0 c23 (by omega)).step c25 (by omega) (by intro y hy; simp only [List.mem_cons, List.not_mem_nil, or_false, false_or] at hy ⊢; try omega)), h152, h155, h158, h161, (show (((k) + 1) : Int) ≤ n3 by first | omega | (simp only [List.length_append, List.length_cons, List.length_nil, List.length_take, List.length_drop, List.length_map]; omega)), (show (ts ++ [x7]).length = ((k) + 1) by first | omega | (simp only [List.length_append, List.length_cons, List.length_nil, List.length_take, List.length_drop, List.length_map]; omega)), (show b = putL ([x1, x2, x3, x4, x5] ++ (ts ++ [x7])) ++ r7 by exact hpre7), (show Short ([x1, x2, x3, x4, x5] ++ (ts ++ [x7])) by exact hsx7), (show r7.length ≤ b.length by first | omega | (simp only [List.length_append, List.length_cons, List.length_nil, List.length_take, List.length_drop, List.length_map]; omega))⟩ (show n3.toNat - ((k) + 1) < n3.toNat - k by omega)
  refine ops_lit (e := 9) (sz := 1) [S x7] (by kernel_rfl) (by kernel_rfl) (by kernel_rfl) rfl (by decide) (fun v12 w26 h162 c26 z42 => ?_)
  have z43 := c26.size
  replace h162 : OwnS w26 (w22.heap.size) v12 [x7] := h162.1
  refine ops_nil ?_
  have h163 := h137.keep0 c26 (by omega)
  have h164 := h138.keep0 c26 (by omega)
  refine nx_any ⟨h163, h164, trivial⟩ ?_
  refine any_1 2 (bm 10 63) (by kernel_rfl) rfl (by kernel_rfl) ?_
  have h165 := h86.keep0 c15 (by omega)
  have h166 := h165.keep1 c21 (by omega) (by omega)
  have h167 := h166.keep0 c26 (by omega)
  refine ops_loadB (i := 3) (v := tv) (by kernel_rfl) (by kernel_rfl) (by kernel_rfl) (by kernel_rfl) h167 (by kernel_rfl) ?_
  refine ops_nil ?_
  refine nx_any ⟨h163, h164, trivial⟩ ?_
  refine any_1 6 (bm 10 127) (by kernel_rfl) rfl (by kernel_rfl) ?_
  have h168 := h87.keep c15 (by omega) (fun _ _ _ => by simp)
  have h169 := h168.keep c21 (by omega) (fun b _ _ => by simp only [List.mem_cons, List.not_mem_nil, or_false, not_or]; omega)
  have h170 := h169.keep c26 (by omega) (fun _ _ _ => by simp)
  refine ops_appendS (e := 9) (by_ := 16) (l1 := ts) (l2 := [x7]) (by kernel_rfl) (by kernel_rfl) (by kernel_rfl) (by kernel_rfl) (by kernel_rfl) (by kernel_rfl) (by kernel_rfl) h170 h162.sl (by first | omega | (simp only [List.length_append, List.length_cons, List.length_nil, List.length_take, List.length_drop, List.length_map]; omega)) (by first | omega | (simp only [List.length_append, List.length_cons, List.length_nil, List.length_take, List.length_drop, List.length_map]; omega)) (fun v13 w27 h171 c27 c28 => ?_)
  have z44 := c27.size
  refine ops_nil ?_
  have h172 := h163.keep0 c27 (by omega)
  have h173 := h164.keep0 c27 (by omega)
  refine nx_any ⟨h172, h173, trivial⟩ ?_
  refine any_takes [7, 8] (fuel' := 1) (listed' := (bm 10 511)) (l' := [(0, .pointer (some ⟨ba, 0, none⟩)), (1, .pointer (some ⟨bz, 0, none⟩)), (3, .pointer (some ⟨b2, 0, none⟩)), (34, .int .i64 n3), (35, .int .i64 ((k : Int))), (43, v13), (45, .pointer (some ⟨bz, 3, none⟩))]) panK_FB (by kernel_rfl) (by kernel_rfl) (by kernel_rfl) ?_
  refine any_1 9 (bm 10 1023) (by kernel_rfl) rfl (by kernel_rfl) ?_
  have h174 := h167.keep0 c27 (by omega)
  refine ops_store (i := 3) (v := v13) [.int .i64 n1, S x2, S x3, v13, .int .i64 n2, .slice none 0 0] (by kernel_rfl) (by kernel_rfl) (by kernel_rfl) (by kernel_rfl) h171.sl.one (by kernel_rfl) h174 (by kernel_rfl) (by kernel_rfl) (fun w28 h175 c29 z45 => ?_)
  have z46 := c29.size
  refine ops_nil ?_
  have h176 := h172.keep1 c29 (by omega) (by omega)
  have h177 := h173.keep1 c29 (by omega) (by omega)
  refine nx_any ⟨h176, h177, trivial⟩ ?_
  refine any_done (by kernel_rfl) ?_
  refine nx_blk (nx_seq (at_region ?_))
  refine ops_add (a := (k : Int)) (b := 1) (kd := .i64) (by kernel_rfl) (by kernel_rfl) (by kernel_rfl) (by kernel_rfl) (show (-9223372036854775808 : Int) ≤ ((k : Int)) + 1 by omega) (show ((k : Int)) + 1 ≤ (9223372036854775807 : Int) by omega) ?_
  refine ops_run1 (l' := [(0, .pointer (some ⟨ba, 0, none⟩)), (1, .pointer (some ⟨bz, 0, none⟩)), (3, .pointer (some ⟨b2, 0, none⟩)), (34, .int .i64 n3), (35, .int .i64 (((k : Int)) + 1))]) (by kernel_rfl) ?_
  refine ops_nil ?_
  have h178 := h171.keep c29 (by omega) (fun b _ _ => by simp only [List.mem_cons, List.not_mem_nil, or_false, not_or]; omega)
  have h179 := h135.keep0 c26 (by omega)
  have h180 := h179.keep0 c27 (by omega)
  have h181 := h180.keep1 c29 (by omega) (by omega)
  have h182 := h136.keep0 c26 (by omega)
  have h183 := h182.keep0 c27 (by omega)
  have h184 := h183.keep1 c29 (by omega) (by omega)
  refine nx_round (v13, ts ++ [x7], v9, r7, (k) + 1) (proj_sub [0, 1, 3, 34, 35] (by kernel_rfl)) ⟨(((((((Chg.refl [bz, b1] w14).step h85 (by omega) (by intro y hy; simp only [List.mem_cons, List.not_mem_nil, or_false, false_or] at hy ⊢; try omega)).step0 c15 (by omega)).step c21 (by omega) (by intro y hy; simp only [List.mem_cons, List.not_mem_nil, or_false, false_or] at hy ⊢; try omega)).step0 c26 (by omega)).step0 c27 (by omega)).step c29 (by omega) (by intro y hy; simp only [List.mem_cons, List.not_mem_nil, or_false, false_or] at hy ⊢; try omega)), h175, h178, h181, h184, (show (((k) + 1) : Int) ≤ n3 by first | omega | (simp only [List.length_append, List.length_cons, List.length_nil, List.length_take, List.length_drop, List.length_map]; omega)), (show (ts ++ [x7]).length = ((k) + 1) by first | omega | (simp only [List.length_append, List.length_cons, List.length_nil, List.length_take, List.length_drop, List.length_map]; omega)), (show b = putL ([x1, x2, x3, x4, x5] ++ (ts ++ [x7])) ++ r7 by exact hpre7), (show Short ([x1, x2, x3, x4, x5] ++ (ts ++ [x7])) by exact hsx7), (show r7.length ≤ b.length by first | omega | (simp only [List.length_append, List.length_cons, List.length_nil, List.length_take, List.length_drop, List.length_map]; omega))⟩ (show n3.toNat - ((k) + 1) < n3.toNat - k by omega)
  rintro ch w22 a ha ⟨hch, hno, c21⟩
  have z47 := c21.size
  have h185 := h86.keep0 c15 (by omega)
  have h186 := h185.keep1 c21 (by omega) (by omega)
  exact out_panic ha (.inr ⟨_, rfl, hch, ⟨no_text hno h93 h92 (fun m hm => (by have := dec_count hm h93 h92 hp3; rw [partsM_len]; simp only [List.length_append, List.length_cons, List.length_nil]; omega)), _, _, _, _, _, _, h186⟩, ((((((((((((((((((Chg.refl [bz] w).step0 c1 (by omega)).step c2 (by omega) (by intro y hy; simp only [List.mem_cons, List.not_mem_nil, or_false, false_or] at hy ⊢; try omega)).step0 c3 (by omega)).step c4 (by omega) (by intro y hy; simp only [List.mem_cons, List.not_mem_nil, or_false, false_or] at hy ⊢; try omega)).step0 c5 (by omega)).step c6 (by omega) (by intro y hy; simp only [List.mem_cons, List.not_mem_nil, or_false, false_or] at hy ⊢; try omega)).step c7 (by omega) (by intro y hy; simp only [List.mem_cons, List.not_mem_nil, or_false, false_or] at hy ⊢; try omega)).step c8 (by omega) (by intro y hy; simp only [List.mem_cons, List.not_mem_nil, or_false, false_or] at hy ⊢; try omega)).step c9 (by omega) (by intro y hy; simp only [List.mem_cons, List.not_mem_nil, or_false, false_or] at hy ⊢; try omega)).step c10 (by omega) (by intro y hy; simp only [List.mem_cons, List.not_mem_nil, or_false, false_or] at hy ⊢; try omega)).step c11 (by omega) (by intro y hy; simp only [List.mem_cons, List.not_mem_nil, or_false, false_or] at hy ⊢; try omega)).step c12 (by omega) (by intro y hy; simp only [List.mem_cons, List.not_mem_nil, or_false, false_or] at hy ⊢; try omega)).step c13 (by omega) (by intro y hy; simp only [List.mem_cons, List.not_mem_nil, or_false, false_or] at hy ⊢; try omega)).step c14 (by omega) (by intro y hy; simp only [List.mem_cons, List.not_mem_nil, or_false, false_or] at hy ⊢; try omega)).step h85 (by omega) (by intro y hy; simp only [List.mem_cons, List.not_mem_nil, or_false, false_or] at hy ⊢; try omega)).step0 c15 (by omega)).step c21 (by omega) (by intro y hy; simp only [List.mem_cons, List.not_mem_nil, or_false, false_or] at hy ⊢; try omega))⟩)
  refine at_exit (ex_seq (ex_inv (ex_here (nx_seq (at_seq (at_region ?_))))))
  have h187 := h67.keep1 c14 (by omega) (by omega)
  have h188 := h187.keep h85 (by omega) (by simp only [List.mem_cons, List.not_mem_nil, or_false, not_or]; omega)
  refine ops_loadB (i := 0) (v := .func (.func 35) #[] #[.pointer (some ⟨b1, 0, none⟩)]) (by kernel_rfl) (by kernel_rfl) (by kernel_rfl) (by kernel_rfl) h188 (by kernel_rfl) ?_
  refine ops_callp (by kernel_rfl) (by kernel_rfl) (by kernel_rfl) (text_ok h88 h89 (by omega) (by omega) ) ?_ ?_
  rintro _ w29 ⟨x8, r8, v14, h189, rfl, h190, h191, c30⟩
  have z48 := c30.size
  have hpre8 : b = putL ([x1, x2, x3, x4, x5] ++ ts ++ [x8]) ++ r8 := by rw [h92, h189.2, ← List.append_assoc, ← putL_snoc]; try rfl
  have hsx8 : Short ([x1, x2, x3, x4, x5] ++ ts ++ [x8]) := short_snoc h93 h189.1
  have rl8 := cut_len h189
  refine ops_toB (b := x8) (by kernel_rfl) (by kernel_rfl) (by kernel_rfl) (by kernel_rfl) (by kernel_rfl) (by first | omega | (simp only [List.length_append, List.length_cons, List.length_nil, List.length_take, List.length_drop, List.length_map]; omega)) (fun v15 w30 h192 c31 z49 => ?_)
  have z50 := c31.size
  refine ops_run1 (l' := [(0, .pointer (some ⟨ba, 0, none⟩)), (1, .pointer (some ⟨bz, 0, none⟩)), (49, v15), (50, .pointer (some ⟨bz, 5, none⟩))]) (by kernel_rfl) ?_
  have h193 := h86.keep1 c30 (by omega) (by omega)
  have h194 := h193.keep0 c31 (by omega)
  refine ops_store (i := 5) (v := v15) [.int .i64 n1, S x2, S x3, tv, .int .i64 n2, v15] (by kernel_rfl) (by kernel_rfl) (by kernel_rfl) (by kernel_rfl) h192.sl.one (by kernel_rfl) h194 (by kernel_rfl) (by kernel_rfl) (fun w31 h195 c32 z51 => ?_)
  have z52 := c32.size
  refine ops_nil (nx_seq (at_seq (at_region ?_)))
  refine ops_loadS (i := 0) (vs := [.int .i64 n1, S x2, S x3, tv, .int .i64 n2, v15]) 6 (by kernel_rfl) (by kernel_rfl) (by kernel_rfl) (by kernel_rfl) (by kernel_rfl) h195 (by kernel_rfl) (by kernel_rfl) ?_
  have h196 := h87.keep c30 (by omega) (fun b _ _ => by simp only [List.mem_cons, List.not_mem_nil, or_false, not_or]; omega)
  have h197 := h196.keep c31 (by omega) (fun _ _ _ => by simp)
  have h198 := h197.keep c32 (by omega) (fun b _ _ => by simp only [List.mem_cons, List.not_mem_nil, or_false, not_or]; omega)
  have h199 := h192.keep c32 (by omega) (fun b _ _ => by simp only [List.mem_cons, List.not_mem_nil, or_false, not_or]; omega)
  obtain ⟨mm, hmm⟩ : ∃ mm, mm = (⟨n1, x2, x3, ts, n2, x8⟩ : Msg) := ⟨_, rfl⟩
  have h202 := h83.keep c14 (by omega) (by intro y hy; simp only [List.mem_cons, List.not_mem_nil, or_false]; omega)
  have h203 := h202.keep h85 (by omega) (by intro y hy; simp only [List.mem_cons, List.not_mem_nil, or_false]; omega)
  have h204 := h203.keep c30 (by omega) (by intro y hy; simp only [List.mem_cons, List.not_mem_nil, or_false]; omega)
  have h205 := h204.keep0 c31 (by omega)
  have h206 := h205.keep c32 (by omega) (by intro y hy; simp only [List.mem_cons, List.not_mem_nil, or_false]; omega)
  refine ops_callr (by kernel_rfl) (by kernel_rfl) (by kernel_rfl) (encode_ok (⟨n1, x2, x3, ts, n2, x8⟩ : Msg) h198.sl h199.sl (show x3.length < 4294967281 by have := hsx8 x3 (by simp); omega) (fun s hs => (by have := hsx8 s (by simp only [List.mem_append]; exact .inl (.inr hs)); omega)) (show x2.length < 4294967281 by have := hsx8 x2 (by simp); omega) (show n1 ≤ 9223372036854775807 by omega) (show n2 ≤ 9223372036854775807 by omega) h206) ?_
  rintro _ w32 ⟨c33, (⟨h200, v16, rfl, h201⟩ | ⟨h200, rfl⟩)⟩
  have z53 := c33.size
  rw [← hmm] at h200 h201
  refine ops_run5 (l' := [(0, .pointer (some ⟨ba, 0, none⟩)), (6, v16), (7, .int .i64 0)]) (by kernel_rfl) ?_
  refine ops_nil (nx_seq (at_region ?_))
  refine ops_run4 (l' := [(0, .pointer (some ⟨ba, 0, none⟩)), (58, .bool true), (59, v16)]) (by kernel_rfl) ?_
  have h207 := h66.keep1 c14 (by omega) (by omega)
  have h208 := h207.keep h85 (by omega) (by simp only [List.mem_cons, List.not_mem_nil, or_false, not_or]; omega)
  have h209 := h208.keep1 c30 (by omega) (by omega)
  have h210 := h209.keep0 c31 (by omega)
  have h211 := h210.keep1 c32 (by omega) (by omega)
  have h212 := h211.keep0 c33 (by omega)
  refine ops_loadB (i := 0) (v := bv) (by kernel_rfl) (by kernel_rfl) (by kernel_rfl) (by kernel_rfl) h212 (by kernel_rfl) ?_
  have h213 := h18.keep1 c6 (by omega) (by omega)
  have h214 := h213.keep1 c7 (by omega) (by omega)
  have h215 := h214.keep1 c8 (by omega) (by omega)
  have h216 := h215.keep1 c9 (by omega) (by omega)
  have h217 := h216.keep1 c10 (by omega) (by omega)
  have h218 := h217.keep1 c11 (by omega) (by omega)
  have h219 := h218.keep1 c12 (by omega) (by omega)
  have h220 := h219.keep1 c13 (by omega) (by omega)
  have h221 := h220.keep1 c14 (by omega) (by omega)
  have h222 := h221.keep h85 (by omega) (fun b _ _ => by simp only [List.mem_cons, List.not_mem_nil, or_false, not_or]; omega)
  have h223 := h222.keep1 c30 (by omega) (by omega)
  have h224 := h223.keep0 c31 (by omega)
  have h225 := h224.keep1 c32 (by omega) (by omega)
  have h226 := h225.keep0 c33 (by omega)
  refine ops_callr (by kernel_rfl) (by kernel_rfl) (by kernel_rfl) (bytes_Equal_ok h201 h226) ?_
  rintro _ w33 ⟨rfl, c34⟩
  have z54 := c34.size
  refine ops_run1 (l' := [(62, .bool (decide ((putL (partsM mm) : Bytes) = b)))]) (by kernel_rfl) ?_
  refine ops_callp (by kernel_rfl) (by kernel_rfl) (by kernel_rfl) (entry_must (decide ((putL (partsM mm) : Bytes) = b)) w33) ?_ ?_
  rintro _ w34 ⟨q4, rfl, hwq⟩
  rw [hwq]
  clear hwq w34
  replace q4 := of_decide_eq_true q4
  refine ops_nil ?_
  refine nx_ret (rs := []) (vs := []) rfl (by kernel_rfl) ?_
  have h227 := h195.keep0 c33 (by omega)
  have h228 := h227.keep0 c34 (by omega)
  have h229 := h198.keep c33 (by omega) (fun _ _ _ => by simp)
  have h230 := h229.keep c34 (by omega) (fun _ _ _ => by simp)
  have h231 := h199.keep c33 (by omega) (fun _ _ _ => by simp)
  have h232 := h231.keep c34 (by omega) (fun _ _ _ => by simp)
  exact .inl ⟨_, rfl, ⟨mm, tv, v15, ⟨⟨h200, q4.symm⟩, by rw [hmm]; show n2 ≤ _; omega⟩, by rw [hmm]; exact h228, by rw [hmm]; exact (h230.sl).wide (by omega) (by omega) (Nat.le_refl _), by rw [hmm]; exact (h232.sl).wide (by omega) (by omega) (Nat.le_refl _)⟩, (((((((((((((((((((((Chg.refl [bz] w).step0 c1 (by omega)).step c2 (by omega) (by intro y hy; simp only [List.mem_cons, List.not_mem_nil, or_false, false_or] at hy ⊢; try omega)).step0 c3 (by omega)).step c4 (by omega) (by intro y hy; simp only [List.mem_cons, List.not_mem_nil, or_false, false_or] at hy ⊢; try omega)).step0 c5 (by omega)).step c6 (by omega) (by intro y hy; simp only [List.mem_cons, List.not_mem_nil, or_false, false_or] at hy ⊢; try omega)).step c7 (by omega) (by intro y hy; simp only [List.mem_cons, List.not_mem_nil, or_false, false_or] at hy ⊢; try omega)).step c8 (by omega) (by intro y hy; simp only [List.mem_cons, List.not_mem_nil, or_false, false_or] at hy ⊢; try omega)).step c9 (by omega) (by intro y hy; simp only [List.mem_cons, List.not_mem_nil, or_false, false_or] at hy ⊢; try omega)).step c10 (by omega) (by intro y hy; simp only [List.mem_cons, List.not_mem_nil, or_false, false_or] at hy ⊢; try omega)).step c11 (by omega) (by intro y hy; simp only [List.mem_cons, List.not_mem_nil, or_false, false_or] at hy ⊢; try omega)).step c12 (by omega) (by intro y hy; simp only [List.mem_cons, List.not_mem_nil, or_false, false_or] at hy ⊢; try omega)).step c13 (by omega) (by intro y hy; simp only [List.mem_cons, List.not_mem_nil, or_false, false_or] at hy ⊢; try omega)).step c14 (by omega) (by intro y hy; simp only [List.mem_cons, List.not_mem_nil, or_false, false_or] at hy ⊢; try omega)).step h85 (by omega) (by intro y hy; simp only [List.mem_cons, List.not_mem_nil, or_false, false_or] at hy ⊢; try omega)).step c30 (by omega) (by intro y hy; simp only [List.mem_cons, List.not_mem_nil, or_false, false_or] at hy ⊢; try omega)).step0 c31 (by omega)).step c32 (by omega) (by intro y hy; simp only [List.mem_cons, List.not_mem_nil, or_false, false_or] at hy ⊢; try omega)).step0 c33 (by omega)).step0 c34 (by omega))⟩
  rintro ch w34 a ha ⟨q4, hch, hwq⟩
  rw [hwq]
  replace q4 := of_decide_eq_false q4
  have h233 := h195.keep0 c33 (by omega)
  have h234 := h233.keep0 c34 (by omega)
  exact out_panic ha (.inr ⟨_, rfl, hch, ⟨(fun m hm => (by have h1 := dec_all hm hsx8 hpre8 hp1 hp2 hp3 (by omega); rw [← hmm] at h1; subst h1; first | exact h200 hm.1.1 | exact q4 hm.1.2.symm)), _, _, _, _, _, _, h234⟩, (((((((((((((((((((((Chg.refl [bz] w).step0 c1 (by omega)).step c2 (by omega) (by intro y hy; simp only [List.mem_cons, List.not_mem_nil, or_false, false_or] at hy ⊢; try omega)).step0 c3 (by omega)).step c4 (by omega) (by intro y hy; simp only [List.mem_cons, List.not_mem_nil, or_false, false_or] at hy ⊢; try omega)).step0 c5 (by omega)).step c6 (by omega) (by intro y hy; simp only [List.mem_cons, List.not_mem_nil, or_false, false_or] at hy ⊢; try omega)).step c7 (by omega) (by intro y hy; simp only [List.mem_cons, List.not_mem_nil, or_false, false_or] at hy ⊢; try omega)).step c8 (by omega) (by intro y hy; simp only [List.mem_cons, List.not_mem_nil, or_false, false_or] at hy ⊢; try omega)).step c9 (by omega) (by intro y hy; simp only [List.mem_cons, List.not_mem_nil, or_false, false_or] at hy ⊢; try omega)).step c10 (by omega) (by intro y hy; simp only [List.mem_cons, List.not_mem_nil, or_false, false_or] at hy ⊢; try omega)).step c11 (by omega) (by intro y hy; simp only [List.mem_cons, List.not_mem_nil, or_false, false_or] at hy ⊢; try omega)).step c12 (by omega) (by intro y hy; simp only [List.mem_cons, List.not_mem_nil, or_false, false_or] at hy ⊢; try omega)).step c13 (by omega) (by intro y hy; simp only [List.mem_cons, List.not_mem_nil, or_false, false_or] at hy ⊢; try omega)).step c14 (by omega) (by intro y hy; simp only [List.mem_cons, List.not_mem_nil, or_false, false_or] at hy ⊢; try omega)).step h85 (by omega) (by intro y hy; simp only [List.mem_cons, List.not_mem_nil, or_false, false_or] at hy ⊢; try omega)).step c30 (by omega) (by intro y hy; simp only [List.mem_cons, List.not_mem_nil, or_false, false_or] at hy ⊢; try omega)).step0 c31 (by omega)).step c32 (by omega) (by intro y hy; simp only [List.mem_cons, List.not_mem_nil, or_false, false_or] at hy ⊢; try omega)).step0 c33 (by omega)).step0 c34 (by omega))⟩)
  have z55 := c33.size
  rw [← hmm] at h200
  refine ops_run5 (l' := [(0, .pointer (some ⟨ba, 0, none⟩)), (6, .slice none 0 0), (7, .int .i64 150)]) (by kernel_rfl) ?_
  refine ops_nil (nx_seq (at_region ?_))
  refine ops_run7 (l' := [(62, .bool false)]) (by kernel_rfl) ?_
  refine ops_callp (by kernel_rfl) (by kernel_rfl) (by kernel_rfl) (entry_must (false) w32) (fun v w' h => by cases h.1) ?_
  rintro ch w35 a ha ⟨q5, hch, hwq⟩
  rw [hwq]
  have h235 := h195.keep0 c33 (by omega)
  exact out_panic ha (.inr ⟨_, rfl, hch, ⟨(fun m hm => (by have h1 := dec_all hm hsx8 hpre8 hp1 hp2 hp3 (by omega); rw [← hmm] at h1; subst h1; first | exact h200 hm.1.1 | exact q2 hm.1.2.symm)), _, _, _, _, _, _, h235⟩, ((((((((((((((((((((Chg.refl [bz] w).step0 c1 (by omega)).step c2 (by omega) (by intro y hy; simp only [List.mem_cons, List.not_mem_nil, or_false, false_or] at hy ⊢; try omega)).step0 c3 (by omega)).step c4 (by omega) (by intro y hy; simp only [List.mem_cons, List.not_mem_nil, or_false, false_or] at hy ⊢; try omega)).step0 c5 (by omega)).step c6 (by omega) (by intro y hy; simp only [List.mem_cons, List.not_mem_nil, or_false, false_or] at hy ⊢; try omega)).step c7 (by omega) (by intro y hy; simp only [List.mem_cons, List.not_mem_nil, or_false, false_or] at hy ⊢; try omega)).step c8 (by omega) (by intro y hy; simp only [List.mem_cons, List.not_mem_nil, or_false, false_or] at hy ⊢; try omega)).step c9 (by omega) (by intro y hy; simp only [List.mem_cons, List.not_mem_nil, or_false, false_or] at hy ⊢; try omega)).step c10 (by omega) (by intro y hy; simp only [List.mem_cons, List.not_mem_nil, or_false, false_or] at hy ⊢; try omega)).step c11 (by omega) (by intro y hy; simp only [List.mem_cons, List.not_mem_nil, or_false, false_or] at hy ⊢; try omega)).step c12 (by omega) (by intro y hy; simp only [List.mem_cons, List.not_mem_nil, or_false, false_or] at hy ⊢; try omega)).step c13 (by omega) (by intro y hy; simp only [List.mem_cons, List.not_mem_nil, or_false, false_or] at hy ⊢; try omega)).step c14 (by omega) (by intro y hy; simp only [List.mem_cons, List.not_mem_nil, or_false, false_or] at hy ⊢; try omega)).step h85 (by omega) (by intro y hy; simp only [List.mem_cons, List.not_mem_nil, or_false, false_or] at hy ⊢; try omega)).step c30 (by omega) (by intro y hy; simp only [List.mem_cons, List.not_mem_nil, or_false, false_or] at hy ⊢; try omega)).step0 c31 (by omega)).step c32 (by omega) (by intro y hy; simp only [List.mem_cons, List.not_mem_nil, or_false, false_or] at hy ⊢; try omega)).step0 c33 (by omega))⟩)
  rintro ch w29 a ha ⟨hch, hno, c30⟩
  have z56 := c30.size
  have h236 := h86.keep1 c30 (by omega) (by omega)
  exact out_panic ha (.inr ⟨_, rfl, hch, ⟨no_text hno h93 h92 (fun m hm => (by have := dec_count hm h93 h92 hp3; rw [partsM_len]; simp only [List.length_append, List.length_cons, List.length_nil]; omega)), _, _, _, _, _, _, h236⟩, (((((((((((((((((Chg.refl [bz] w).step0 c1 (by omega)).step c2 (by omega) (by intro y hy; simp only [List.mem_cons, List.not_mem_nil, or_false, false_or] at hy ⊢; try omega)).step0 c3 (by omega)).step c4 (by omega) (by intro y hy; simp only [List.mem_cons, List.not_mem_nil, or_false, false_or] at hy ⊢; try omega)).step0 c5 (by omega)).step c6 (by omega) (by intro y hy; simp only [List.mem_cons, List.not_mem_nil, or_false, false_or] at hy ⊢; try omega)).step c7 (by omega) (by intro y hy; simp only [List.mem_cons, List.not_mem_nil, or_false, false_or] at hy ⊢; try omega)).step c8 (by omega) (by intro y hy; simp only [List.mem_cons, List.not_mem_nil, or_false, false_or] at hy ⊢; try omega)).step c9 (by omega) (by intro y hy; simp only [List.mem_cons, List.not_mem_nil, or_false, false_or] at hy ⊢; try omega)).step c10 (by omega) (by intro y hy; simp only [List.mem_cons, List.not_mem_nil, or_false, false_or] at hy ⊢; try omega)).step c11 (by omega) (by intro y hy; simp only [List.mem_cons, List.not_mem_nil, or_false, false_or] at hy ⊢; try omega)).step c12 (by omega) (by intro y hy; simp only [List.mem_cons, List.not_mem_nil, or_false, false_or] at hy ⊢; try omega)).step c13 (by omega) (by intro y hy; simp only [List.mem_cons, List.not_mem_nil, or_false, false_or] at hy ⊢; try omega)).step c14 (by omega) (by intro y hy; simp only [List.mem_cons, List.not_mem_nil, or_false, false_or] at hy ⊢; try omega)).step h85 (by omega) (by intro y hy; simp only [List.mem_cons, List.not_mem_nil, or_false, false_or] at hy ⊢; try omega)).step c30 (by omega) (by intro y hy; simp only [List.mem_cons, List.not_mem_nil, or_false, false_or] at hy ⊢; try omega))⟩)
  rintro ch w15 a ha ⟨q2, hch, hwq⟩
  rw [hwq]
  replace q2 := of_decide_eq_false q2
  have h237 := h65.keep1 c14 (by omega) (by omega)
  exact out_panic ha (.inr ⟨_, rfl, hch, ⟨(fun m hm => (by have h1 := dec_count (ts := []) hm hsx5 hpre5 hp3; have h2 := dec_to hm; omega)), _, _, _, _, _, _, h237⟩, (((((((((((((((Chg.refl [bz] w).step0 c1 (by omega)).step c2 (by omega) (by intro y hy; simp only [List.mem_cons, List.not_mem_nil, or_false, false_or] at hy ⊢; try omega)).step0 c3 (by omega)).step c4 (by omega) (by intro y hy; simp only [List.mem_cons, List.not_mem_nil, or_false, false_or] at hy ⊢; try omega)).step0 c5 (by omega)).step c6 (by omega) (by intro y hy; simp only [List.mem_cons, List.not_mem_nil, or_false, false_or] at hy ⊢; try omega)).step c7 (by omega) (by intro y hy; simp only [List.mem_cons, List.not_mem_nil, or_false, false_or] at hy ⊢; try omega)).step c8 (by omega) (by intro y hy; simp only [List.mem_cons, List.not_mem_nil, or_false, false_or] at hy ⊢; try omega)).step c9 (by omega) (by intro y hy; simp only [List.mem_cons, List.not_mem_nil, or_false, false_or] at hy ⊢; try omega)).step c10 (by omega) (by intro y hy; simp only [List.mem_cons, List.not_mem_nil, or_false, false_or] at hy ⊢; try omega)).step c11 (by omega) (by intro y hy; simp only [List.mem_cons, List.not_mem_nil, or_false, false_or] at hy ⊢; try omega)).step c12 (by omega) (by intro y hy; simp only [List.mem_cons, List.not_mem_nil, or_false, false_or] at hy ⊢; try omega)).step c13 (by omega) (by intro y hy; simp only [List.mem_cons, List.not_mem_nil, or_false, false_or] at hy ⊢; try omega)).step c14 (by omega) (by intro y hy; simp only [List.mem_cons, List.not_mem_nil, or_false, false_or] at hy ⊢; try omega))⟩)
  rw [show (decide ((n3 : Int) ≥ (1 : Int))) = false from decide_eq_false q1]
  refine ops_run3 (l' := [(0, .pointer (some ⟨ba, 0, none⟩)), (1, .pointer (some ⟨bz, 0, none⟩)), (3, .pointer (some ⟨b2, 0, none⟩)), (5, .int .i64 n3), (32, .bool false)]) (by kernel_rfl) ?_
  refine ops_callp (by kernel_rfl) (by kernel_rfl) (by kernel_rfl) (entry_must (false) w14) (fun v w' h => by cases h.1) ?_
  rintro ch w36 a ha ⟨q6, hch, hwq⟩
  rw [hwq]
  have h238 := h65.keep1 c14 (by omega) (by omega)
  exact out_panic ha (.inr ⟨_, rfl, hch, ⟨(fun m hm => (by have h1 := dec_count (ts := []) hm hsx5 hpre5 hp3; have h2 := dec_to hm; omega)), _, _, _, _, _, _, h238⟩, (((((((((((((((Chg.refl [bz] w).step0 c1 (by omega)).step c2 (by omega) (by intro y hy; simp only [List.mem_cons, List.not_mem_nil, or_false, false_or] at hy ⊢; try omega)).step0 c3 (by omega)).step c4 (by omega) (by intro y hy; simp only [List.mem_cons, List.not_mem_nil, or_false, false_or] at hy ⊢; try omega)).step0 c5 (by omega)).step c6 (by omega) (by intro y hy; simp only [List.mem_cons, List.not_mem_nil, or_false, false_or] at hy ⊢; try omega)).step c7 (by omega) (by intro y hy; simp only [List.mem_cons, List.not_mem_nil, or_false, false_or] at hy ⊢; try omega)).step c8 (by omega) (by intro y hy; simp only [List.mem_cons, List.not_mem_nil, or_false, false_or] at hy ⊢; try omega)).step c9 (by omega) (by intro y hy; simp only [List.mem_cons, List.not_mem_nil, or_false, false_or] at hy ⊢; try omega)).step c10 (by omega) (by intro y hy; simp only [List.mem_cons, List.not_mem_nil, or_false, false_or] at hy ⊢; try omega)).step c11 (by omega) (by intro y hy; simp only [List.mem_cons, List.not_mem_nil, or_false, false_or] at hy ⊢; try omega)).step c12 (by omega) (by intro y hy; simp only [List.mem_cons, List.not_mem_nil, or_false, false_or] at hy ⊢; try omega)).step c13 (by omega) (by intro y hy; simp only [List.mem_cons, List.not_mem_nil, or_false, false_or] at hy ⊢; try omega)).step c14 (by omega) (by intro y hy; simp only [List.mem_cons, List.not_mem_nil, or_false, false_or] at hy ⊢; try omega))⟩)
  rintro ch w14 a ha ⟨hch, hno, c14⟩
  have z57 := c14.size
  have h239 := h65.keep1 c14 (by omega) (by omega)
  exact out_panic ha (.inr ⟨_, rfl, hch, ⟨no_number hno hsx4 hpre4 (fun m hm => ⟨m.to.length, by omega, by have := dec_to hm; omega, rfl⟩), _, _, _, _, _, _, h239⟩, (((((((((((((((Chg.refl [bz] w).step0 c1 (by omega)).step c2 (by omega) (by intro y hy; simp only [List.mem_cons, List.not_mem_nil, or_false, false_or] at hy ⊢; try omega)).step0 c3 (by omega)).step c4 (by omega) (by intro y hy; simp only [List.mem_cons, List.not_mem_nil, or_false, false_or] at hy ⊢; try omega)).step0 c5 (by omega)).step c6 (by omega) (by intro y hy; simp only [List.mem_cons, List.not_mem_nil, or_false, false_or] at hy ⊢; try omega)).step c7 (by omega) (by intro y hy; simp only [List.mem_cons, List.not_mem_nil, or_false, false_or] at hy ⊢; try omega)).step c8 (by omega) (by intro y hy; simp only [List.mem_cons, List.not_mem_nil, or_false, false_or] at hy ⊢; try omega)).step c9 (by omega) (by intro y hy; simp only [List.mem_cons, List.not_mem_nil, or_false, false_or] at hy ⊢; try omega)).step c10 (by omega) (by intro y hy; simp only [List.mem_cons, List.not_mem_nil, or_false, false_or] at hy ⊢; try omega)).step c11 (by omega) (by intro y hy; simp only [List.mem_cons, List.not_mem_nil, or_false, false_or] at hy ⊢; try omega)).step c12 (by omega) (by intro y hy; simp only [List.mem_cons, List.not_mem_nil, or_false, false_or] at hy ⊢; try omega)).step c13 (by omega) (by intro y hy; simp only [List.mem_cons, List.not_mem_nil, or_false, false_or] at hy ⊢; try omega)).step c14 (by omega) (by intro y hy; simp only [List.mem_cons, List.not_mem_nil, or_false, false_or] at hy ⊢; try omega))⟩)
  rintro ch w9 a ha ⟨hch, hno, c9⟩
  have z58 := c9.size
  have h240 := hbz.keep0 c1 (by omega)
  have h241 := h240.keep1 c2 (by omega) (by omega)
  have h242 := h241.keep0 c3 (by omega)
  have h243 := h242.keep1 c4 (by omega) (by omega)
  have h244 := h243.keep0 c5 (by omega)
  have h245 := h244.keep1 c6 (by omega) (by omega)
  have h246 := h245.keep1 c7 (by omega) (by omega)
  have h247 := h246.keep1 c8 (by omega) (by omega)
  have h248 := h247.keep1 c9 (by omega) (by omega)
  exact out_panic ha (.inr ⟨_, rfl, hch, ⟨no_number hno hsx3 hpre3 (fun m hm => ⟨m.at_, dec_at0 hm, hm.2, rfl⟩), _, _, _, _, _, _, h248⟩, ((((((((((Chg.refl [bz] w).step0 c1 (by omega)).step c2 (by omega) (by intro y hy; simp only [List.mem_cons, List.not_mem_nil, or_false, false_or] at hy ⊢; try omega)).step0 c3 (by omega)).step c4 (by omega) (by intro y hy; simp only [List.mem_cons, List.not_mem_nil, or_false, false_or] at hy ⊢; try omega)).step0 c5 (by omega)).step c6 (by omega) (by intro y hy; simp only [List.mem_cons, List.not_mem_nil, or_false, false_or] at hy ⊢; try omega)).step c7 (by omega) (by intro y hy; simp only [List.mem_cons, List.not_mem_nil, or_false, false_or] at hy ⊢; try omega)).step c8 (by omega) (by intro y hy; simp only [List.mem_cons, List.not_mem_nil, or_false, false_or] at hy ⊢; try omega)).step c9 (by omega) (by intro y hy; simp only [List.mem_cons, List.not_mem_nil, or_false, false_or] at hy ⊢; try omega))⟩)
  rintro ch w8 a ha ⟨hch, hno, c8⟩
  have z59 := c8.size
  have h249 := hbz.keep0 c1 (by omega)
  have h250 := h249.keep1 c2 (by omega) (by omega)
  have h251 := h250.keep0 c3 (by omega)
  have h252 := h251.keep1 c4 (by omega) (by omega)
  have h253 := h252.keep0 c5 (by omega)
  have h254 := h253.keep1 c6 (by omega) (by omega)
  have h255 := h254.keep1 c7 (by omega) (by omega)
  have h256 := h255.keep1 c8 (by omega) (by omega)
  exact out_panic ha (.inr ⟨_, rfl, hch, ⟨no_text hno hsx2 hpre2 (fun m hm => (by rw [partsM_len]; show 2 < _; omega)), _, _, _, _, _, _, h256⟩, (((((((((Chg.refl [bz] w).step0 c1 (by omega)).step c2 (by omega) (by intro y hy; simp only [List.mem_cons, List.not_mem_nil, or_false, false_or] at hy ⊢; try omega)).step0 c3 (by omega)).step c4 (by omega) (by intro y hy; simp only [List.mem_cons, List.not_mem_nil, or_false, false_or] at hy ⊢; try omega)).step0 c5 (by omega)).step c6 (by omega) (by intro y hy; simp only [List.mem_cons, List.not_mem_nil, or_false, false_or] at hy ⊢; try omega)).step c7 (by omega) (by intro y hy; simp only [List.mem_cons, List.not_mem_nil, or_false, false_or] at hy ⊢; try omega)).step c8 (by omega) (by intro y hy; simp only [List.mem_cons, List.not_mem_nil, or_false, false_or] at hy ⊢; try omega))⟩)
  rintro ch w7 a ha ⟨hch, hno, c7⟩
  have z60 := c7.size
  have h257 := hbz.keep0 c1 (by omega)
  have h258 := h257.keep1 c2 (by omega) (by omega)
  have h259 := h258.keep0 c3 (by omega)
  have h260 := h259.keep1 c4 (by omega) (by omega)
  have h261 := h260.keep0 c5 (by omega)
  have h262 := h261.keep1 c6 (by omega) (by omega)
  have h263 := h262.keep1 c7 (by omega) (by omega)
  exact out_panic ha (.inr ⟨_, rfl, hch, ⟨no_text hno hsx1 hpre1 (fun m hm => (by rw [partsM_len]; show 1 < _; omega)), _, _, _, _, _, _, h263⟩, ((((((((Chg.refl [bz] w).step0 c1 (by omega)).step c2 (by omega) (by intro y hy; simp only [List.mem_cons, List.not_mem_nil, or_false, false_or] at hy ⊢; try omega)).step0 c3 (by omega)).step c4 (by omega) (by intro y hy; simp only [List.mem_cons, List.not_mem_nil, or_false, false_or] at hy ⊢; try omega)).step0 c5 (by omega)).step c6 (by omega) (by intro y hy; simp only [List.mem_cons, List.not_mem_nil, or_false, false_or] at hy ⊢; try omega)).step c7 (by omega) (by intro y hy; simp only [List.mem_cons, List.not_mem_nil, or_false, false_or] at hy ⊢; try omega))⟩)
  rintro ch w6 a ha ⟨hch, hno, c6⟩
  have z61 := c6.size
  have h264 := hbz.keep0 c1 (by omega)
  have h265 := h264.keep1 c2 (by omega) (by omega)
  have h266 := h265.keep0 c3 (by omega)
  have h267 := h266.keep1 c4 (by omega) (by omega)
  have h268 := h267.keep0 c5 (by omega)
  have h269 := h268.keep1 c6 (by omega) (by omega)
  exact out_panic ha (.inr ⟨_, rfl, hch, ⟨no_number hno hsx0 hpre0 (fun m hm => ⟨m.id, by have := dec_id hm; omega, by have := dec_id hm; omega, rfl⟩), _, _, _, _, _, _, h269⟩, (((((((Chg.refl [bz] w).step0 c1 (by omega)).step c2 (by omega) (by intro y hy; simp only [List.mem_cons, List.not_mem_nil, or_false, false_or] at hy ⊢; try omega)).step0 c3 (by omega)).step c4 (by omega) (by intro y hy; simp only [List.mem_cons, List.not_mem_nil, or_false, false_or] at hy ⊢; try omega)).step0 c5 (by omega)).step c6 (by omega) (by intro y hy; simp only [List.mem_cons, List.not_mem_nil, or_false, false_or] at hy ⊢; try omega))⟩)

end Go.Proofs.YtnjkdnbabogcjaaDoor
