/- A walk, printed by a program of my own (wip/gen/walk.py) from a script of mine. -/
import Derived.Test.YtnjkdnbabogcjaaDoorProg
import Derived.Test.YtnjkdnbabogcjaaDoorL0
import Derived.Test.YtnjkdnbabogcjaaDoorQ5
import Derived.Test.YtnjkdnbabogcjaaDoorP7
set_option maxHeartbeats 4000000
set_option linter.unusedVariables false
set_option linter.unusedSimpArgs false
set_option maxRecDepth 100000
namespace Go.Proofs.YtnjkdnbabogcjaaDoor
open Go Go.RowKit Go.Kw

theorem rEncode_ok {w : World} (m : Msg) {lo hi : Nat} {tv : Value} (ht : Ss w lo hi tv m.to) {lo2 hi2 : Nat} {bv : Value} (hb : Bs w lo2 hi2 bv m.body) (hfr : m.fr.length < 4294967281) (hto : ∀ s, s ∈ m.to → s.length < 4294967281) (hcl : m.cls.length < 4294967281) (hid : m.id ≤ 9223372036854775807) (hat : m.at_ ≤ 9223372036854775807) (hg : Gl w) :
    Rt Tryd.prog 44 #[.agg #[.int .i64 m.id, S m.cls, S m.fr, tv, .int .i64 m.at_, bv]] w fun u w' => Chg [] w.heap.size w w' ∧ ((msgP m ∧ ∃ v, u = .tuple #[v, .int .i64 0] ∧ Bs w' w.heap.size w'.heap.size v (putL (partsM m))) ∨ (¬ msgP m ∧ u = .tuple #[.slice none 0 0, .int .i64 150])) := by
  have hhi := ht.hi_le
  have hhb := hb.hi_le
  have htl := ht.len_le
  have hbl := hb.len_le
  have hgs := hg.size
  refine enter (n := 69) (args := [.agg #[.int .i64 m.id, S m.cls, S m.fr, tv, .int .i64 m.at_, bv]]) Tryd.func44 rfl rfl (Nat.le_of_ble_eq_true (by kernel_rfl)) ?_
  refine at_seq (at_region ?_)
  refine ops_box (cs := [.int .i64 m.id, S m.cls, S m.fr, tv, .int .i64 m.at_, bv]) (by kernel_rfl) (by kernel_rfl) (by kernel_rfl) (fun b1 w1 e1 h1 c1 z1 => ?_)
  have z2 := c1.size
  refine ops_run2 (l' := [(1, .pointer (some ⟨b1, 0, none⟩)), (2, .slice none 0 0), (3, .int .i64 0)]) (by kernel_rfl) ?_
  refine ops_nil (nx_seq (at_seq (at_seq (at_region ?_))))
  refine ops_run1 (l' := [(1, .pointer (some ⟨b1, 0, none⟩)), (2, .slice none 0 0), (3, .int .i64 0), (7, .pointer (some ⟨b1, 2, none⟩))]) (by kernel_rfl) ?_
  refine ops_loadS (i := 2) (vs := [S m.fr, tv, .int .i64 m.at_]) 3 (by kernel_rfl) (by kernel_rfl) (by kernel_rfl) (by kernel_rfl) (by kernel_rfl) h1 (by kernel_rfl) (by kernel_rfl) ?_
  refine ops_run1 (l' := [(1, .pointer (some ⟨b1, 0, none⟩)), (2, .slice none 0 0), (3, .int .i64 0), (8, .agg #[S m.fr, tv, .int .i64 m.at_]), (9, .pointer (some ⟨b1, 5, none⟩))]) (by kernel_rfl) ?_
  refine ops_loadB (i := 5) (v := bv) (by kernel_rfl) (by kernel_rfl) (by kernel_rfl) (by kernel_rfl) h1 (by kernel_rfl) ?_
  have h2 := ht.keep0 c1 (by omega)
  have h3 := hb.keep0 c1 (by omega)
  refine ops_callr (by kernel_rfl) (by kernel_rfl) (by kernel_rfl) (rCheck_ok m.fr m.to (m.at_) h2 m.body h3 (by omega) (by exact fun s hs => Nat.lt_trans (hto s hs) (by omega))) ?_
  rintro _ w2 ⟨rfl, c2⟩
  have z3 := c2.size
  by_cases q1 : checkP m.fr m.to (m.at_) m.body
  rw [if_pos q1]
  have hck := q1
  have hat0 : 0 ≤ m.at_ := q1.1.2.2.1
  refine ops_run3 (l' := [(1, .pointer (some ⟨b1, 0, none⟩)), (2, .slice none 0 0), (3, .int .i64 0), (13, .bool false), (14, .pointer (some ⟨b1, 0, none⟩))]) (by kernel_rfl) ?_
  have h4 := h1.keep0 c2 (by omega)
  refine ops_loadB (i := 0) (v := .int .i64 m.id) (by kernel_rfl) (by kernel_rfl) (by kernel_rfl) (by kernel_rfl) h4 (by kernel_rfl) ?_
  refine ops_run3 (l' := [(1, .pointer (some ⟨b1, 0, none⟩)), (2, .slice none 0 0), (3, .int .i64 0), (18, .bool (decide ((m.id : Int) < (1 : Int))))]) (by kernel_rfl) ?_
  by_cases q2 : (m.id : Int) < (1 : Int)
  rw [show (decide ((m.id : Int) < (1 : Int))) = true from decide_eq_true q2]
  refine ops_run10 (l' := [(1, .pointer (some ⟨b1, 0, none⟩)), (2, .slice none 0 0), (3, .int .i64 0), (28, .bool true)]) (by kernel_rfl) ?_
  refine ops_nil (nx_seq ?_)
  refine at_ift (by kernel_rfl) ?_
  refine at_seq (at_region ?_)
  refine ops_run2 (l' := [(1, .pointer (some ⟨b1, 0, none⟩)), (2, .slice none 0 0), (3, .int .i64 150)]) (by kernel_rfl) ?_
  refine ops_nil (nx_seq ?_)
  refine at_ret (rs := [.tmp 2, .tmp 3]) (vs := [.slice none 0 0, .int .i64 150]) rfl (by kernel_rfl) ?_
  exact ⟨_, rfl, (((Chg.refl [] w).step0 c1 (by omega)).step0 c2 (by omega)), .inr ⟨fun hk => (by rcases hk with ⟨g1, g2, g3, g4⟩; first | omega | contradiction), rfl⟩⟩
  rw [show (decide ((m.id : Int) < (1 : Int))) = false from decide_eq_false q2]
  refine ops_run1 (l' := [(1, .pointer (some ⟨b1, 0, none⟩)), (2, .slice none 0 0), (3, .int .i64 0), (18, .bool false), (19, .pointer (some ⟨b1, 0, none⟩))]) (by kernel_rfl) ?_
  refine ops_loadB (i := 0) (v := .int .i64 m.id) (by kernel_rfl) (by kernel_rfl) (by kernel_rfl) (by kernel_rfl) h4 (by kernel_rfl) ?_
  refine ops_run3 (l' := [(1, .pointer (some ⟨b1, 0, none⟩)), (2, .slice none 0 0), (3, .int .i64 0), (23, .bool (decide ((m.id : Int) > (1099511627776 : Int))))]) (by kernel_rfl) ?_
  by_cases q3 : (m.id : Int) > (1099511627776 : Int)
  rw [show (decide ((m.id : Int) > (1099511627776 : Int))) = true from decide_eq_true q3]
  refine ops_run5 (l' := [(1, .pointer (some ⟨b1, 0, none⟩)), (2, .slice none 0 0), (3, .int .i64 0), (28, .bool true)]) (by kernel_rfl) ?_
  refine ops_nil (nx_seq ?_)
  refine at_ift (by kernel_rfl) ?_
  refine at_seq (at_region ?_)
  refine ops_run2 (l' := [(1, .pointer (some ⟨b1, 0, none⟩)), (2, .slice none 0 0), (3, .int .i64 150)]) (by kernel_rfl) ?_
  refine ops_nil (nx_seq ?_)
  refine at_ret (rs := [.tmp 2, .tmp 3]) (vs := [.slice none 0 0, .int .i64 150]) rfl (by kernel_rfl) ?_
  exact ⟨_, rfl, (((Chg.refl [] w).step0 c1 (by omega)).step0 c2 (by omega)), .inr ⟨fun hk => (by rcases hk with ⟨g1, g2, g3, g4⟩; first | omega | contradiction), rfl⟩⟩
  rw [show (decide ((m.id : Int) > (1099511627776 : Int))) = false from decide_eq_false q3]
  refine ops_run1 (l' := [(1, .pointer (some ⟨b1, 0, none⟩)), (2, .slice none 0 0), (3, .int .i64 0), (23, .bool false), (24, .pointer (some ⟨b1, 1, none⟩))]) (by kernel_rfl) ?_
  refine ops_loadB (i := 1) (v := S m.cls) (by kernel_rfl) (by kernel_rfl) (by kernel_rfl) (by kernel_rfl) h4 (by kernel_rfl) ?_
  refine ops_callr (by kernel_rfl) (by kernel_rfl) (by kernel_rfl) (small_ok m.cls 20 (by first | omega | (simp only [List.length_append, List.length_cons, List.length_nil, List.length_take, List.length_drop, List.length_map]; omega)) w2) ?_
  rintro _ w3 ⟨rfl, c3⟩
  have z4 := c3.size
  refine ops_run2 (l' := [(1, .pointer (some ⟨b1, 0, none⟩)), (2, .slice none 0 0), (3, .int .i64 0), (28, .bool (!(decide (smallP m.cls 20))))]) (by kernel_rfl) ?_
  refine ops_nil (nx_seq ?_)
  refine at_ifn (smallP m.cls 20) (by kernel_rfl) (fun q4 => ?_) (fun q4 => ?_)
  refine at_seq (at_region ?_)
  refine ops_run2 (l' := [(1, .pointer (some ⟨b1, 0, none⟩)), (2, .slice none 0 0), (3, .int .i64 150)]) (by kernel_rfl) ?_
  refine ops_nil (nx_seq ?_)
  refine at_ret (rs := [.tmp 2, .tmp 3]) (vs := [.slice none 0 0, .int .i64 150]) rfl (by kernel_rfl) ?_
  exact ⟨_, rfl, ((((Chg.refl [] w).step0 c1 (by omega)).step0 c2 (by omega)).step0 c3 (by omega)), .inr ⟨fun hk => (by rcases hk with ⟨g1, g2, g3, g4⟩; first | omega | contradiction), rfl⟩⟩
  refine at_skip (nx_seq ?_)
  refine at_cut (X := Value) (fun x_ => [(1, .pointer (some ⟨b1, 0, none⟩)), (2, .slice none 0 0), (3, .int .i64 0), (4, x_)]) (fun x_ W1 => Chg [] (w3.heap.size) w3 W1 ∧ OwnBB W1 w1.heap.size x_ [Lib.itoa (m.id), m.cls, m.fr, Lib.itoa (m.at_), Lib.itoa (m.to.length : Int)]) ?_ ?_
  have h5 := h4.keep0 c3 (by omega)
  refine at_draw (m := 21) (listed := (bm 21 0)) (fun W => Blk W b1 [.int .i64 m.id, S m.cls, S m.fr, tv, .int .i64 m.at_, bv] 28 ∧ True) (by kernel_rfl) (by kernel_rfl) (by kernel_rfl) (fun w4 c4 z5 _ _ => ?_)
  have z6 := c4.size
  have h6 := h5.keep0 c4 (by omega)
  refine ⟨⟨h6, trivial⟩, ?_⟩
  refine any_share (X := Value × Nat × Nat × Value × Nat × Nat × Value × Nat × Nat × Value × Nat × Nat × Value × Nat × Nat) (fun x_ => [(1, .pointer (some ⟨b1, 0, none⟩)), (2, .slice none 0 0), (3, .int .i64 0), (31, x_.1), (34, x_.2.2.2.1), (38, x_.2.2.2.2.2.2.1), (42, x_.2.2.2.2.2.2.2.2.2.1), (47, x_.2.2.2.2.2.2.2.2.2.2.2.2.1)]) (fun x_ W2 => Chg [] w4.heap.size w4 W2 ∧ Bs W2 x_.2.1 x_.2.2.1 x_.1 (Lib.itoa (m.id)) ∧ Bs W2 x_.2.2.2.2.1 x_.2.2.2.2.2.1 x_.2.2.2.1 m.cls ∧ Bs W2 x_.2.2.2.2.2.2.2.1 x_.2.2.2.2.2.2.2.2.1 x_.2.2.2.2.2.2.1 m.fr ∧ Bs W2 x_.2.2.2.2.2.2.2.2.2.2.1 x_.2.2.2.2.2.2.2.2.2.2.2.1 x_.2.2.2.2.2.2.2.2.2.1 (Lib.itoa (m.at_)) ∧ Bs W2 x_.2.2.2.2.2.2.2.2.2.2.2.2.2.1 x_.2.2.2.2.2.2.2.2.2.2.2.2.2.2 x_.2.2.2.2.2.2.2.2.2.2.2.2.1 (Lib.itoa ((m.to.length : Int)))) 2 (bm 21 524287) ?_ (fun hs1 => ?_)
  rintro ⟨y1, y1l, y1h, y2, y2l, y2h, y3, y3l, y3h, y4, y4l, y4h, y5, y5l, y5h⟩ w5 ⟨h7, h8, h9, h10, h11, h12⟩
  replace h7 : Chg [] w4.heap.size w4 w5 := h7
  replace h8 : Bs w5 y1l y1h y1 (Lib.itoa (m.id)) := h8
  replace h9 : Bs w5 y2l y2h y2 m.cls := h9
  replace h10 : Bs w5 y3l y3h y3 m.fr := h10
  replace h11 : Bs w5 y4l y4h y4 (Lib.itoa (m.at_)) := h11
  replace h12 : Bs w5 y5l y5h y5 (Lib.itoa ((m.to.length : Int))) := h12
  have z7 := h7.size
  have z8 := h8.hi_le
  have z9 := h9.hi_le
  have z10 := h10.hi_le
  have z11 := h11.hi_le
  have z12 := h12.hi_le
  refine any_1 19 (bm 21 1048575) (by kernel_rfl) rfl (by kernel_rfl) ?_
  refine ops_litV (e := 22) [y1, y2, y3, y4, y5] (by kernel_rfl) (by kernel_rfl) (by kernel_rfl) (by kernel_rfl) (by intro v hv; simp only [List.mem_cons, List.not_mem_nil, or_false] at hv; rcases hv with rfl | rfl | rfl | rfl | rfl <;> first | exact h8.cells1 | exact h9.cells1 | exact h10.cells1 | exact h11.cells1 | exact h12.cells1) rfl (by decide) (fun v1 w6 h13 c5 z13 => ?_)
  have z14 := c5.size
  have h14 : OwnBB w6 (w5.heap.size) v1 [Lib.itoa (m.id), m.cls, m.fr, Lib.itoa (m.at_), Lib.itoa ((m.to.length : Int))] := ownBB_lit rfl h13 c5 ⟨ElB.of h8 h8.hi_le (by simp), ⟨ElB.of h9 h9.hi_le (by simp), ⟨ElB.of h10 h10.hi_le (by simp), ⟨ElB.of h11 h11.hi_le (by simp), ⟨ElB.of h12 h12.hi_le (by simp), trivial⟩⟩⟩⟩⟩
  refine ops_nil ?_
  have h15 := h6.keep0 h7 (by omega)
  have h16 := h15.keep0 c5 (by omega)
  refine nx_any ⟨h16, trivial⟩ ?_
  refine any_takes [20] (fuel' := 0) (listed' := (bm 21 2097151)) (l' := [(1, .pointer (some ⟨b1, 0, none⟩)), (2, .slice none 0 0), (3, .int .i64 0), (4, v1)]) panK_FB (by kernel_rfl) (by kernel_rfl) (by kernel_rfl) ?_
  refine any_done (by kernel_rfl) ?_
  exact nx_meet v1 (proj_sub [1, 2, 3, 4] (by kernel_rfl)) ⟨((((Chg.refl [] w3).step0 c4 (by omega)).step0 h7 (by omega)).step0 c5 (by omega)), (h14.down (by omega))⟩
  refine any_share (X := Value × Nat × Nat × Value × Nat × Nat × Value × Nat × Nat × Value × Nat × Nat) (fun x_ => [(1, .pointer (some ⟨b1, 0, none⟩)), (2, .slice none 0 0), (3, .int .i64 0), (31, x_.1), (34, x_.2.2.2.1), (38, x_.2.2.2.2.2.2.1), (42, x_.2.2.2.2.2.2.2.2.2.1), (46, .int .i64 ((m.to.length : Int)))]) (fun x_ W3 => Chg [] w4.heap.size w4 W3 ∧ Bs W3 x_.2.1 x_.2.2.1 x_.1 (Lib.itoa (m.id)) ∧ Bs W3 x_.2.2.2.2.1 x_.2.2.2.2.2.1 x_.2.2.2.1 m.cls ∧ Bs W3 x_.2.2.2.2.2.2.2.1 x_.2.2.2.2.2.2.2.2.1 x_.2.2.2.2.2.2.1 m.fr ∧ Bs W3 x_.2.2.2.2.2.2.2.2.2.2.1 x_.2.2.2.2.2.2.2.2.2.2.2 x_.2.2.2.2.2.2.2.2.2.1 (Lib.itoa (m.at_))) 3 (bm 21 262143) ?_ (fun hs2 => ?_)
  rintro ⟨y6, y6l, y6h, y7, y7l, y7h, y8, y8l, y8h, y9, y9l, y9h⟩ w7 ⟨h17, h18, h19, h20, h21⟩
  replace h17 : Chg [] w4.heap.size w4 w7 := h17
  replace h18 : Bs w7 y6l y6h y6 (Lib.itoa (m.id)) := h18
  replace h19 : Bs w7 y7l y7h y7 m.cls := h19
  replace h20 : Bs w7 y8l y8h y8 m.fr := h20
  replace h21 : Bs w7 y9l y9h y9 (Lib.itoa (m.at_)) := h21
  have z15 := h17.size
  have z16 := h18.hi_le
  have z17 := h19.hi_le
  have z18 := h20.hi_le
  have z19 := h21.hi_le
  refine any_1 18 (bm 21 524287) (by kernel_rfl) rfl (by kernel_rfl) ?_
  have h23 := hg.keep0 c1 (by omega)
  have h24 := h23.keep0 c2 (by omega)
  have h25 := h24.keep0 c3 (by omega)
  have h26 := h25.keep0 c4 (by omega)
  have h27 := h26.keep0 h17 (by omega)
  refine ops_callr (by kernel_rfl) (by kernel_rfl) (by kernel_rfl) (digits_ok ((m.to.length : Int)) (by omega) (by omega) w7 h27) ?_
  rintro v2 w8 ⟨h22, c6⟩
  have z20 := c6.size
  refine ops_nil ?_
  have h28 := h6.keep0 h17 (by omega)
  have h29 := h28.keep0 c6 (by omega)
  refine nx_any ⟨h29, trivial⟩ ?_
  have h30 := h18.keep0 c6 (by omega)
  have h31 := h19.keep0 c6 (by omega)
  have h32 := h20.keep0 c6 (by omega)
  have h33 := h21.keep0 c6 (by omega)
  exact any_use hs1 (y6, y6l, y6h, y7, y7l, y7h, y8, y8l, y8h, y9, y9l, y9h, v2, w7.heap.size, w8.heap.size) (proj_sub [1, 2, 3, 31, 34, 38, 42, 47] (by kernel_rfl)) ⟨(((Chg.refl [] w4).step0 h17 (by omega)).step0 c6 (by omega)), h30, h31, h32, h33, h22.sl⟩
  refine any_share (X := Value × Nat × Nat × Value × Nat × Nat × Value × Nat × Nat × Value × Nat × Nat) (fun x_ => [(1, .pointer (some ⟨b1, 0, none⟩)), (2, .slice none 0 0), (3, .int .i64 0), (31, x_.1), (34, x_.2.2.2.1), (37, S m.fr), (42, x_.2.2.2.2.2.2.1), (47, x_.2.2.2.2.2.2.2.2.2.1)]) (fun x_ W4 => Chg [] w4.heap.size w4 W4 ∧ Bs W4 x_.2.1 x_.2.2.1 x_.1 (Lib.itoa (m.id)) ∧ Bs W4 x_.2.2.2.2.1 x_.2.2.2.2.2.1 x_.2.2.2.1 m.cls ∧ Bs W4 x_.2.2.2.2.2.2.2.1 x_.2.2.2.2.2.2.2.2.1 x_.2.2.2.2.2.2.1 (Lib.itoa (m.at_)) ∧ Bs W4 x_.2.2.2.2.2.2.2.2.2.2.1 x_.2.2.2.2.2.2.2.2.2.2.2 x_.2.2.2.2.2.2.2.2.2.1 (Lib.itoa ((m.to.length : Int)))) 3 (bm 21 523775) ?_ (fun hs3 => ?_)
  rintro ⟨y10, y10l, y10h, y11, y11l, y11h, y12, y12l, y12h, y13, y13l, y13h⟩ w9 ⟨h34, h35, h36, h37, h38⟩
  replace h34 : Chg [] w4.heap.size w4 w9 := h34
  replace h35 : Bs w9 y10l y10h y10 (Lib.itoa (m.id)) := h35
  replace h36 : Bs w9 y11l y11h y11 m.cls := h36
  replace h37 : Bs w9 y12l y12h y12 (Lib.itoa (m.at_)) := h37
  replace h38 : Bs w9 y13l y13h y13 (Lib.itoa ((m.to.length : Int))) := h38
  have z21 := h34.size
  have z22 := h35.hi_le
  have z23 := h36.hi_le
  have z24 := h37.hi_le
  have z25 := h38.hi_le
  refine any_1 9 (bm 21 524287) (by kernel_rfl) rfl (by kernel_rfl) ?_
  refine ops_toB (b := m.fr) (by kernel_rfl) (by kernel_rfl) (by kernel_rfl) (by kernel_rfl) (by kernel_rfl) (by first | omega | (simp only [List.length_append, List.length_cons, List.length_nil, List.length_take, List.length_drop, List.length_map]; omega)) (fun v3 w10 h39 c7 z26 => ?_)
  have z27 := c7.size
  refine ops_nil ?_
  have h40 := h6.keep0 h34 (by omega)
  have h41 := h40.keep0 c7 (by omega)
  refine nx_any ⟨h41, trivial⟩ ?_
  have h42 := h35.keep0 c7 (by omega)
  have h43 := h36.keep0 c7 (by omega)
  have h44 := h37.keep0 c7 (by omega)
  have h45 := h38.keep0 c7 (by omega)
  exact any_use hs1 (y10, y10l, y10h, y11, y11l, y11h, v3, w9.heap.size, w10.heap.size, y12, y12l, y12h, y13, y13l, y13h) (proj_sub [1, 2, 3, 31, 34, 38, 42, 47] (by kernel_rfl)) ⟨(((Chg.refl [] w4).step0 h34 (by omega)).step0 c7 (by omega)), h42, h43, h39.sl, h44, h45⟩
  refine any_share (X := Value × Nat × Nat × Value × Nat × Nat × Value × Nat × Nat × Value × Nat × Nat) (fun x_ => [(1, .pointer (some ⟨b1, 0, none⟩)), (2, .slice none 0 0), (3, .int .i64 0), (31, x_.1), (33, S m.cls), (38, x_.2.2.2.1), (42, x_.2.2.2.2.2.2.1), (47, x_.2.2.2.2.2.2.2.2.2.1)]) (fun x_ W5 => Chg [] w4.heap.size w4 W5 ∧ Bs W5 x_.2.1 x_.2.2.1 x_.1 (Lib.itoa (m.id)) ∧ Bs W5 x_.2.2.2.2.1 x_.2.2.2.2.2.1 x_.2.2.2.1 m.fr ∧ Bs W5 x_.2.2.2.2.2.2.2.1 x_.2.2.2.2.2.2.2.2.1 x_.2.2.2.2.2.2.1 (Lib.itoa (m.at_)) ∧ Bs W5 x_.2.2.2.2.2.2.2.2.2.2.1 x_.2.2.2.2.2.2.2.2.2.2.2 x_.2.2.2.2.2.2.2.2.2.1 (Lib.itoa ((m.to.length : Int)))) 3 (bm 21 524255) ?_ (fun hs4 => ?_)
  rintro ⟨y14, y14l, y14h, y15, y15l, y15h, y16, y16l, y16h, y17, y17l, y17h⟩ w11 ⟨h46, h47, h48, h49, h50⟩
  replace h46 : Chg [] w4.heap.size w4 w11 := h46
  replace h47 : Bs w11 y14l y14h y14 (Lib.itoa (m.id)) := h47
  replace h48 : Bs w11 y15l y15h y15 m.fr := h48
  replace h49 : Bs w11 y16l y16h y16 (Lib.itoa (m.at_)) := h49
  replace h50 : Bs w11 y17l y17h y17 (Lib.itoa ((m.to.length : Int))) := h50
  have z28 := h46.size
  have z29 := h47.hi_le
  have z30 := h48.hi_le
  have z31 := h49.hi_le
  have z32 := h50.hi_le
  refine any_1 5 (bm 21 524287) (by kernel_rfl) rfl (by kernel_rfl) ?_
  refine ops_toB (b := m.cls) (by kernel_rfl) (by kernel_rfl) (by kernel_rfl) (by kernel_rfl) (by kernel_rfl) (by first | omega | (simp only [List.length_append, List.length_cons, List.length_nil, List.length_take, List.length_drop, List.length_map]; omega)) (fun v4 w12 h51 c8 z33 => ?_)
  have z34 := c8.size
  refine ops_nil ?_
  have h52 := h6.keep0 h46 (by omega)
  have h53 := h52.keep0 c8 (by omega)
  refine nx_any ⟨h53, trivial⟩ ?_
  have h54 := h47.keep0 c8 (by omega)
  have h55 := h48.keep0 c8 (by omega)
  have h56 := h49.keep0 c8 (by omega)
  have h57 := h50.keep0 c8 (by omega)
  exact any_use hs1 (y14, y14l, y14h, v4, w11.heap.size, w12.heap.size, y15, y15l, y15h, y16, y16l, y16h, y17, y17l, y17h) (proj_sub [1, 2, 3, 31, 34, 38, 42, 47] (by kernel_rfl)) ⟨(((Chg.refl [] w4).step0 h46 (by omega)).step0 c8 (by omega)), h54, h51.sl, h55, h56, h57⟩
  refine any_share (X := Value × Nat × Nat × Value × Nat × Nat × Value × Nat × Nat) (fun x_ => [(1, .pointer (some ⟨b1, 0, none⟩)), (2, .slice none 0 0), (3, .int .i64 0), (31, x_.1), (34, x_.2.2.2.1), (38, x_.2.2.2.2.2.2.1), (41, .int .i64 m.at_), (46, .int .i64 ((m.to.length : Int)))]) (fun x_ W6 => Chg [] w4.heap.size w4 W6 ∧ Bs W6 x_.2.1 x_.2.2.1 x_.1 (Lib.itoa (m.id)) ∧ Bs W6 x_.2.2.2.2.1 x_.2.2.2.2.2.1 x_.2.2.2.1 m.cls ∧ Bs W6 x_.2.2.2.2.2.2.2.1 x_.2.2.2.2.2.2.2.2 x_.2.2.2.2.2.2.1 m.fr) 4 (bm 21 253951) ?_ (fun hs5 => ?_)
  rintro ⟨y18, y18l, y18h, y19, y19l, y19h, y20, y20l, y20h⟩ w13 ⟨h58, h59, h60, h61⟩
  replace h58 : Chg [] w4.heap.size w4 w13 := h58
  replace h59 : Bs w13 y18l y18h y18 (Lib.itoa (m.id)) := h59
  replace h60 : Bs w13 y19l y19h y19 m.cls := h60
  replace h61 : Bs w13 y20l y20h y20 m.fr := h61
  have z35 := h58.size
  have z36 := h59.hi_le
  have z37 := h60.hi_le
  have z38 := h61.hi_le
  refine any_1 13 (bm 21 262143) (by kernel_rfl) rfl (by kernel_rfl) ?_
  have h63 := hg.keep0 c1 (by omega)
  have h64 := h63.keep0 c2 (by omega)
  have h65 := h64.keep0 c3 (by omega)
  have h66 := h65.keep0 c4 (by omega)
  have h67 := h66.keep0 h58 (by omega)
  refine ops_callr (by kernel_rfl) (by kernel_rfl) (by kernel_rfl) (digits_ok (m.at_) (by omega) (by omega) w13 h67) ?_
  rintro v5 w14 ⟨h62, c9⟩
  have z39 := c9.size
  refine ops_nil ?_
  have h68 := h6.keep0 h58 (by omega)
  have h69 := h68.keep0 c9 (by omega)
  refine nx_any ⟨h69, trivial⟩ ?_
  have h70 := h59.keep0 c9 (by omega)
  have h71 := h60.keep0 c9 (by omega)
  have h72 := h61.keep0 c9 (by omega)
  exact any_use hs2 (y18, y18l, y18h, y19, y19l, y19h, y20, y20l, y20h, v5, w13.heap.size, w14.heap.size) (proj_sub [1, 2, 3, 31, 34, 38, 42, 46] (by kernel_rfl)) ⟨(((Chg.refl [] w4).step0 h58 (by omega)).step0 c9 (by omega)), h70, h71, h72, h62.sl⟩
  refine any_share (X := Value × Nat × Nat × Value × Nat × Nat × Value × Nat × Nat) (fun x_ => [(1, .pointer (some ⟨b1, 0, none⟩)), (2, .slice none 0 0), (3, .int .i64 0), (31, x_.1), (34, x_.2.2.2.1), (37, S m.fr), (42, x_.2.2.2.2.2.2.1), (46, .int .i64 ((m.to.length : Int)))]) (fun x_ W7 => Chg [] w4.heap.size w4 W7 ∧ Bs W7 x_.2.1 x_.2.2.1 x_.1 (Lib.itoa (m.id)) ∧ Bs W7 x_.2.2.2.2.1 x_.2.2.2.2.2.1 x_.2.2.2.1 m.cls ∧ Bs W7 x_.2.2.2.2.2.2.2.1 x_.2.2.2.2.2.2.2.2 x_.2.2.2.2.2.2.1 (Lib.itoa (m.at_))) 4 (bm 21 261631) ?_ (fun hs6 => ?_)
  rintro ⟨y21, y21l, y21h, y22, y22l, y22h, y23, y23l, y23h⟩ w15 ⟨h73, h74, h75, h76⟩
  replace h73 : Chg [] w4.heap.size w4 w15 := h73
  replace h74 : Bs w15 y21l y21h y21 (Lib.itoa (m.id)) := h74
  replace h75 : Bs w15 y22l y22h y22 m.cls := h75
  replace h76 : Bs w15 y23l y23h y23 (Lib.itoa (m.at_)) := h76
  have z40 := h73.size
  have z41 := h74.hi_le
  have z42 := h75.hi_le
  have z43 := h76.hi_le
  refine any_2 9 (bm 21 262143) 18 (bm 21 523775) (by kernel_rfl) rfl (by kernel_rfl) rfl (by kernel_rfl) ?_ ?_
  refine ops_toB (b := m.fr) (by kernel_rfl) (by kernel_rfl) (by kernel_rfl) (by kernel_rfl) (by kernel_rfl) (by first | omega | (simp only [List.length_append, List.length_cons, List.length_nil, List.length_take, List.length_drop, List.length_map]; omega)) (fun v6 w16 h77 c10 z44 => ?_)
  have z45 := c10.size
  refine ops_nil ?_
  have h78 := h6.keep0 h73 (by omega)
  have h79 := h78.keep0 c10 (by omega)
  refine nx_any ⟨h79, trivial⟩ ?_
  have h80 := h74.keep0 c10 (by omega)
  have h81 := h75.keep0 c10 (by omega)
  have h82 := h76.keep0 c10 (by omega)
  exact any_use hs2 (y21, y21l, y21h, y22, y22l, y22h, v6, w15.heap.size, w16.heap.size, y23, y23l, y23h) (proj_sub [1, 2, 3, 31, 34, 38, 42, 46] (by kernel_rfl)) ⟨(((Chg.refl [] w4).step0 h73 (by omega)).step0 c10 (by omega)), h80, h81, h77.sl, h82⟩
  have h84 := hg.keep0 c1 (by omega)
  have h85 := h84.keep0 c2 (by omega)
  have h86 := h85.keep0 c3 (by omega)
  have h87 := h86.keep0 c4 (by omega)
  have h88 := h87.keep0 h73 (by omega)
  refine ops_callr (by kernel_rfl) (by kernel_rfl) (by kernel_rfl) (digits_ok ((m.to.length : Int)) (by omega) (by omega) w15 h88) ?_
  rintro v7 w17 ⟨h83, c11⟩
  have z46 := c11.size
  refine ops_nil ?_
  have h89 := h6.keep0 h73 (by omega)
  have h90 := h89.keep0 c11 (by omega)
  refine nx_any ⟨h90, trivial⟩ ?_
  have h91 := h74.keep0 c11 (by omega)
  have h92 := h75.keep0 c11 (by omega)
  have h93 := h76.keep0 c11 (by omega)
  exact any_use hs3 (y21, y21l, y21h, y22, y22l, y22h, y23, y23l, y23h, v7, w15.heap.size, w17.heap.size) (proj_sub [1, 2, 3, 31, 34, 37, 42, 47] (by kernel_rfl)) ⟨(((Chg.refl [] w4).step0 h73 (by omega)).step0 c11 (by omega)), h91, h92, h93, h83.sl⟩
  refine any_share (X := Value × Nat × Nat × Value × Nat × Nat × Value × Nat × Nat) (fun x_ => [(1, .pointer (some ⟨b1, 0, none⟩)), (2, .slice none 0 0), (3, .int .i64 0), (31, x_.1), (33, S m.cls), (38, x_.2.2.2.1), (42, x_.2.2.2.2.2.2.1), (46, .int .i64 ((m.to.length : Int)))]) (fun x_ W8 => Chg [] w4.heap.size w4 W8 ∧ Bs W8 x_.2.1 x_.2.2.1 x_.1 (Lib.itoa (m.id)) ∧ Bs W8 x_.2.2.2.2.1 x_.2.2.2.2.2.1 x_.2.2.2.1 m.fr ∧ Bs W8 x_.2.2.2.2.2.2.2.1 x_.2.2.2.2.2.2.2.2 x_.2.2.2.2.2.2.1 (Lib.itoa (m.at_))) 4 (bm 21 262111) ?_ (fun hs7 => ?_)
  rintro ⟨y24, y24l, y24h, y25, y25l, y25h, y26, y26l, y26h⟩ w18 ⟨h94, h95, h96, h97⟩
  replace h94 : Chg [] w4.heap.size w4 w18 := h94
  replace h95 : Bs w18 y24l y24h y24 (Lib.itoa (m.id)) := h95
  replace h96 : Bs w18 y25l y25h y25 m.fr := h96
  replace h97 : Bs w18 y26l y26h y26 (Lib.itoa (m.at_)) := h97
  have z47 := h94.size
  have z48 := h95.hi_le
  have z49 := h96.hi_le
  have z50 := h97.hi_le
  refine any_2 5 (bm 21 262143) 18 (bm 21 524255) (by kernel_rfl) rfl (by kernel_rfl) rfl (by kernel_rfl) ?_ ?_
  refine ops_toB (b := m.cls) (by kernel_rfl) (by kernel_rfl) (by kernel_rfl) (by kernel_rfl) (by kernel_rfl) (by first | omega | (simp only [List.length_append, List.length_cons, List.length_nil, List.length_take, List.length_drop, List.length_map]; omega)) (fun v8 w19 h98 c12 z51 => ?_)
  have z52 := c12.size
  refine ops_nil ?_
  have h99 := h6.keep0 h94 (by omega)
  have h100 := h99.keep0 c12 (by omega)
  refine nx_any ⟨h100, trivial⟩ ?_
  have h101 := h95.keep0 c12 (by omega)
  have h102 := h96.keep0 c12 (by omega)
  have h103 := h97.keep0 c12 (by omega)
  exact any_use hs2 (y24, y24l, y24h, v8, w18.heap.size, w19.heap.size, y25, y25l, y25h, y26, y26l, y26h) (proj_sub [1, 2, 3, 31, 34, 38, 42, 46] (by kernel_rfl)) ⟨(((Chg.refl [] w4).step0 h94 (by omega)).step0 c12 (by omega)), h101, h98.sl, h102, h103⟩
  have h105 := hg.keep0 c1 (by omega)
  have h106 := h105.keep0 c2 (by omega)
  have h107 := h106.keep0 c3 (by omega)
  have h108 := h107.keep0 c4 (by omega)
  have h109 := h108.keep0 h94 (by omega)
  refine ops_callr (by kernel_rfl) (by kernel_rfl) (by kernel_rfl) (digits_ok ((m.to.length : Int)) (by omega) (by omega) w18 h109) ?_
  rintro v9 w20 ⟨h104, c13⟩
  have z53 := c13.size
  refine ops_nil ?_
  have h110 := h6.keep0 h94 (by omega)
  have h111 := h110.keep0 c13 (by omega)
  refine nx_any ⟨h111, trivial⟩ ?_
  have h112 := h95.keep0 c13 (by omega)
  have h113 := h96.keep0 c13 (by omega)
  have h114 := h97.keep0 c13 (by omega)
  exact any_use hs4 (y24, y24l, y24h, y25, y25l, y25h, y26, y26l, y26h, v9, w18.heap.size, w20.heap.size) (proj_sub [1, 2, 3, 31, 33, 38, 42, 47] (by kernel_rfl)) ⟨(((Chg.refl [] w4).step0 h94 (by omega)).step0 c13 (by omega)), h112, h113, h114, h104.sl⟩
  refine any_share (X := Value × Nat × Nat × Value × Nat × Nat) (fun x_ => [(1, .pointer (some ⟨b1, 0, none⟩)), (2, .slice none 0 0), (3, .int .i64 0), (31, x_.1), (34, x_.2.2.2.1), (37, S m.fr), (41, .int .i64 m.at_), (46, .int .i64 ((m.to.length : Int)))]) (fun x_ W9 => Chg [] w4.heap.size w4 W9 ∧ Bs W9 x_.2.1 x_.2.2.1 x_.1 (Lib.itoa (m.id)) ∧ Bs W9 x_.2.2.2.2.1 x_.2.2.2.2.2 x_.2.2.2.1 m.cls) 5 (bm 21 253439) ?_ (fun hs8 => ?_)
  rintro ⟨y27, y27l, y27h, y28, y28l, y28h⟩ w21 ⟨h115, h116, h117⟩
  replace h115 : Chg [] w4.heap.size w4 w21 := h115
  replace h116 : Bs w21 y27l y27h y27 (Lib.itoa (m.id)) := h116
  replace h117 : Bs w21 y28l y28h y28 m.cls := h117
  have z54 := h115.size
  have z55 := h116.hi_le
  have z56 := h117.hi_le
  refine any_2 9 (bm 21 253951) 13 (bm 21 261631) (by kernel_rfl) rfl (by kernel_rfl) rfl (by kernel_rfl) ?_ ?_
  refine ops_toB (b := m.fr) (by kernel_rfl) (by kernel_rfl) (by kernel_rfl) (by kernel_rfl) (by kernel_rfl) (by first | omega | (simp only [List.length_append, List.length_cons, List.length_nil, List.length_take, List.length_drop, List.length_map]; omega)) (fun v10 w22 h118 c14 z57 => ?_)
  have z58 := c14.size
  refine ops_nil ?_
  have h119 := h6.keep0 h115 (by omega)
  have h120 := h119.keep0 c14 (by omega)
  refine nx_any ⟨h120, trivial⟩ ?_
  have h121 := h116.keep0 c14 (by omega)
  have h122 := h117.keep0 c14 (by omega)
  exact any_use hs5 (y27, y27l, y27h, y28, y28l, y28h, v10, w21.heap.size, w22.heap.size) (proj_sub [1, 2, 3, 31, 34, 38, 41, 46] (by kernel_rfl)) ⟨(((Chg.refl [] w4).step0 h115 (by omega)).step0 c14 (by omega)), h121, h122, h118.sl⟩
  have h124 := hg.keep0 c1 (by omega)
  have h125 := h124.keep0 c2 (by omega)
  have h126 := h125.keep0 c3 (by omega)
  have h127 := h126.keep0 c4 (by omega)
  have h128 := h127.keep0 h115 (by omega)
  refine ops_callr (by kernel_rfl) (by kernel_rfl) (by kernel_rfl) (digits_ok (m.at_) (by omega) (by omega) w21 h128) ?_
  rintro v11 w23 ⟨h123, c15⟩
  have z59 := c15.size
  refine ops_nil ?_
  have h129 := h6.keep0 h115 (by omega)
  have h130 := h129.keep0 c15 (by omega)
  refine nx_any ⟨h130, trivial⟩ ?_
  have h131 := h116.keep0 c15 (by omega)
  have h132 := h117.keep0 c15 (by omega)
  exact any_use hs6 (y27, y27l, y27h, y28, y28l, y28h, v11, w21.heap.size, w23.heap.size) (proj_sub [1, 2, 3, 31, 34, 37, 42, 46] (by kernel_rfl)) ⟨(((Chg.refl [] w4).step0 h115 (by omega)).step0 c15 (by omega)), h131, h132, h123.sl⟩
  refine any_share (X := Value × Nat × Nat × Value × Nat × Nat) (fun x_ => [(1, .pointer (some ⟨b1, 0, none⟩)), (2, .slice none 0 0), (3, .int .i64 0), (31, x_.1), (33, S m.cls), (38, x_.2.2.2.1), (41, .int .i64 m.at_), (46, .int .i64 ((m.to.length : Int)))]) (fun x_ W10 => Chg [] w4.heap.size w4 W10 ∧ Bs W10 x_.2.1 x_.2.2.1 x_.1 (Lib.itoa (m.id)) ∧ Bs W10 x_.2.2.2.2.1 x_.2.2.2.2.2 x_.2.2.2.1 m.fr) 5 (bm 21 253919) ?_ (fun hs9 => ?_)
  rintro ⟨y29, y29l, y29h, y30, y30l, y30h⟩ w24 ⟨h133, h134, h135⟩
  replace h133 : Chg [] w4.heap.size w4 w24 := h133
  replace h134 : Bs w24 y29l y29h y29 (Lib.itoa (m.id)) := h134
  replace h135 : Bs w24 y30l y30h y30 m.fr := h135
  have z60 := h133.size
  have z61 := h134.hi_le
  have z62 := h135.hi_le
  refine any_2 5 (bm 21 253951) 13 (bm 21 262111) (by kernel_rfl) rfl (by kernel_rfl) rfl (by kernel_rfl) ?_ ?_
  refine ops_toB (b := m.cls) (by kernel_rfl) (by kernel_rfl) (by kernel_rfl) (by kernel_rfl) (by kernel_rfl) (by first | omega | (simp only [List.length_append, List.length_cons, List.length_nil, List.length_take, List.length_drop, List.length_map]; omega)) (fun v12 w25 h136 c16 z63 => ?_)
  have z64 := c16.size
  refine ops_nil ?_
  have h137 := h6.keep0 h133 (by omega)
  have h138 := h137.keep0 c16 (by omega)
  refine nx_any ⟨h138, trivial⟩ ?_
  have h139 := h134.keep0 c16 (by omega)
  have h140 := h135.keep0 c16 (by omega)
  exact any_use hs5 (y29, y29l, y29h, v12, w24.heap.size, w25.heap.size, y30, y30l, y30h) (proj_sub [1, 2, 3, 31, 34, 38, 41, 46] (by kernel_rfl)) ⟨(((Chg.refl [] w4).step0 h133 (by omega)).step0 c16 (by omega)), h139, h136.sl, h140⟩
  have h142 := hg.keep0 c1 (by omega)
  have h143 := h142.keep0 c2 (by omega)
  have h144 := h143.keep0 c3 (by omega)
  have h145 := h144.keep0 c4 (by omega)
  have h146 := h145.keep0 h133 (by omega)
  refine ops_callr (by kernel_rfl) (by kernel_rfl) (by kernel_rfl) (digits_ok (m.at_) (by omega) (by omega) w24 h146) ?_
  rintro v13 w26 ⟨h141, c17⟩
  have z65 := c17.size
  refine ops_nil ?_
  have h147 := h6.keep0 h133 (by omega)
  have h148 := h147.keep0 c17 (by omega)
  refine nx_any ⟨h148, trivial⟩ ?_
  have h149 := h134.keep0 c17 (by omega)
  have h150 := h135.keep0 c17 (by omega)
  exact any_use hs7 (y29, y29l, y29h, y30, y30l, y30h, v13, w24.heap.size, w26.heap.size) (proj_sub [1, 2, 3, 31, 33, 38, 42, 46] (by kernel_rfl)) ⟨(((Chg.refl [] w4).step0 h133 (by omega)).step0 c17 (by omega)), h149, h150, h141.sl⟩
  refine any_share (X := Value × Nat × Nat × Value × Nat × Nat) (fun x_ => [(1, .pointer (some ⟨b1, 0, none⟩)), (2, .slice none 0 0), (3, .int .i64 0), (30, .int .i64 m.id), (34, x_.1), (38, x_.2.2.2.1), (41, .int .i64 m.at_), (46, .int .i64 ((m.to.length : Int)))]) (fun x_ W11 => Chg [] w4.heap.size w4 W11 ∧ Bs W11 x_.2.1 x_.2.2.1 x_.1 m.cls ∧ Bs W11 x_.2.2.2.2.1 x_.2.2.2.2.2 x_.2.2.2.1 m.fr) 5 (bm 21 253947) ?_ (fun hs10 => ?_)
  rintro ⟨y31, y31l, y31h, y32, y32l, y32h⟩ w27 ⟨h151, h152, h153⟩
  replace h151 : Chg [] w4.heap.size w4 w27 := h151
  replace h152 : Bs w27 y31l y31h y31 m.cls := h152
  replace h153 : Bs w27 y32l y32h y32 m.fr := h153
  have z66 := h151.size
  have z67 := h152.hi_le
  have z68 := h153.hi_le
  refine any_1 2 (bm 21 253951) (by kernel_rfl) rfl (by kernel_rfl) ?_
  have h155 := hg.keep0 c1 (by omega)
  have h156 := h155.keep0 c2 (by omega)
  have h157 := h156.keep0 c3 (by omega)
  have h158 := h157.keep0 c4 (by omega)
  have h159 := h158.keep0 h151 (by omega)
  refine ops_callr (by kernel_rfl) (by kernel_rfl) (by kernel_rfl) (digits_ok (m.id) (by omega) (by omega) w27 h159) ?_
  rintro v14 w28 ⟨h154, c18⟩
  have z69 := c18.size
  refine ops_nil ?_
  have h160 := h6.keep0 h151 (by omega)
  have h161 := h160.keep0 c18 (by omega)
  refine nx_any ⟨h161, trivial⟩ ?_
  have h162 := h152.keep0 c18 (by omega)
  have h163 := h153.keep0 c18 (by omega)
  exact any_use hs5 (v14, w27.heap.size, w28.heap.size, y31, y31l, y31h, y32, y32l, y32h) (proj_sub [1, 2, 3, 31, 34, 38, 41, 46] (by kernel_rfl)) ⟨(((Chg.refl [] w4).step0 h151 (by omega)).step0 c18 (by omega)), h154.sl, h162, h163⟩
  refine any_takes [0] (fuel' := 20) (listed' := (bm 21 1)) (l' := [(1, .pointer (some ⟨b1, 0, none⟩)), (2, .slice none 0 0), (3, .int .i64 0), (29, .pointer (some ⟨b1, 0, none⟩))]) panK_FB (by kernel_rfl) (by kernel_rfl) (by kernel_rfl) ?_
  refine any_load (i := 1) (j := 0) (listed' := (bm 21 3)) (v := .int .i64 m.id) panK_FB (by kernel_rfl) rfl (by kernel_rfl) (by kernel_rfl) (by kernel_rfl) (by kernel_rfl) (by kernel_rfl) (by kernel_rfl) (fun W hW => hW.1) (by kernel_rfl) ?_
  refine any_takes [3] (fuel' := 18) (listed' := (bm 21 11)) (l' := [(1, .pointer (some ⟨b1, 0, none⟩)), (2, .slice none 0 0), (3, .int .i64 0), (30, .int .i64 m.id), (32, .pointer (some ⟨b1, 1, none⟩))]) panK_FB (by kernel_rfl) (by kernel_rfl) (by kernel_rfl) ?_
  refine any_load (i := 4) (j := 1) (listed' := (bm 21 27)) (v := S m.cls) panK_FB (by kernel_rfl) rfl (by kernel_rfl) (by kernel_rfl) (by kernel_rfl) (by kernel_rfl) (by kernel_rfl) (by kernel_rfl) (fun W hW => hW.1) (by kernel_rfl) ?_
  refine any_takes [6, 7] (fuel' := 15) (listed' := (bm 21 219)) (l' := [(1, .pointer (some ⟨b1, 0, none⟩)), (2, .slice none 0 0), (3, .int .i64 0), (30, .int .i64 m.id), (33, S m.cls), (36, .pointer (some ⟨b1, 2, none⟩))]) panK_FB (by kernel_rfl) (by kernel_rfl) (by kernel_rfl) ?_
  refine any_load (i := 8) (j := 2) (listed' := (bm 21 475)) (v := S m.fr) panK_FB (by kernel_rfl) rfl (by kernel_rfl) (by kernel_rfl) (by kernel_rfl) (by kernel_rfl) (by kernel_rfl) (by kernel_rfl) (fun W hW => hW.1) (by kernel_rfl) ?_
  refine any_takes [10, 11] (fuel' := 12) (listed' := (bm 21 3547)) (l' := [(1, .pointer (some ⟨b1, 0, none⟩)), (2, .slice none 0 0), (3, .int .i64 0), (30, .int .i64 m.id), (33, S m.cls), (37, S m.fr), (40, .pointer (some ⟨b1, 4, none⟩))]) panK_FB (by kernel_rfl) (by kernel_rfl) (by kernel_rfl) ?_
  refine any_load (i := 12) (j := 4) (listed' := (bm 21 7643)) (v := .int .i64 m.at_) panK_FB (by kernel_rfl) rfl (by kernel_rfl) (by kernel_rfl) (by kernel_rfl) (by kernel_rfl) (by kernel_rfl) (by kernel_rfl) (fun W hW => hW.1) (by kernel_rfl) ?_
  refine any_takes [14, 15] (fuel' := 9) (listed' := (bm 21 56795)) (l' := [(1, .pointer (some ⟨b1, 0, none⟩)), (2, .slice none 0 0), (3, .int .i64 0), (30, .int .i64 m.id), (33, S m.cls), (37, S m.fr), (41, .int .i64 m.at_), (44, .pointer (some ⟨b1, 3, none⟩))]) panK_FB (by kernel_rfl) (by kernel_rfl) (by kernel_rfl) ?_
  refine any_load (i := 16) (j := 3) (listed' := (bm 21 122331)) (v := tv) panK_FB (by kernel_rfl) rfl (by kernel_rfl) (by kernel_rfl) (by kernel_rfl) (by kernel_rfl) (by kernel_rfl) (by kernel_rfl) (fun W hW => hW.1) (by kernel_rfl) ?_
  have h164 := h2.keep0 c2 (by omega)
  have h165 := h164.keep0 c3 (by omega)
  have h166 := h165.keep0 c4 (by omega)
  refine any_len (i := 17) (listed' := (bm 21 253403)) (e := 9) panK_FB (by kernel_rfl) rfl (by kernel_rfl) (by kernel_rfl) (by kernel_rfl) (by kernel_rfl) (by kernel_rfl) (by kernel_rfl) h166 ?_
  refine any_3 2 (bm 21 253407) 5 (bm 21 253435) 9 (bm 21 253915) (by kernel_rfl) rfl (by kernel_rfl) rfl (by kernel_rfl) rfl (by kernel_rfl) ?_ ?_ ?_
  have h168 := hg.keep0 c1 (by omega)
  have h169 := h168.keep0 c2 (by omega)
  have h170 := h169.keep0 c3 (by omega)
  have h171 := h170.keep0 c4 (by omega)
  refine ops_callr (by kernel_rfl) (by kernel_rfl) (by kernel_rfl) (digits_ok (m.id) (by omega) (by omega) w4 h171) ?_
  rintro v15 w29 ⟨h167, c19⟩
  have z70 := c19.size
  refine ops_nil ?_
  have h172 := h6.keep0 c19 (by omega)
  refine nx_any ⟨h172, trivial⟩ ?_
  refine any_3 5 (bm 21 253439) 9 (bm 21 253919) 13 (bm 21 261599) (by kernel_rfl) rfl (by kernel_rfl) rfl (by kernel_rfl) rfl (by kernel_rfl) ?_ ?_ ?_
  refine ops_toB (b := m.cls) (by kernel_rfl) (by kernel_rfl) (by kernel_rfl) (by kernel_rfl) (by kernel_rfl) (by first | omega | (simp only [List.length_append, List.length_cons, List.length_nil, List.length_take, List.length_drop, List.length_map]; omega)) (fun v16 w30 h173 c20 z71 => ?_)
  have z72 := c20.size
  refine ops_nil ?_
  have h174 := h172.keep0 c20 (by omega)
  refine nx_any ⟨h174, trivial⟩ ?_
  have h175 := h167.keep c20 (by omega) (fun _ _ _ => by simp)
  exact any_use hs8 (v15, w4.heap.size, w30.heap.size, v16, w29.heap.size, w30.heap.size) (proj_sub [1, 2, 3, 31, 34, 37, 41, 46] (by kernel_rfl)) ⟨(((Chg.refl [] w4).step0 c19 (by omega)).step0 c20 (by omega)), h175.sl, h173.sl⟩
  refine ops_toB (b := m.fr) (by kernel_rfl) (by kernel_rfl) (by kernel_rfl) (by kernel_rfl) (by kernel_rfl) (by first | omega | (simp only [List.length_append, List.length_cons, List.length_nil, List.length_take, List.length_drop, List.length_map]; omega)) (fun v17 w31 h176 c21 z73 => ?_)
  have z74 := c21.size
  refine ops_nil ?_
  have h177 := h172.keep0 c21 (by omega)
  refine nx_any ⟨h177, trivial⟩ ?_
  have h178 := h167.keep c21 (by omega) (fun _ _ _ => by simp)
  exact any_use hs9 (v15, w4.heap.size, w31.heap.size, v17, w29.heap.size, w31.heap.size) (proj_sub [1, 2, 3, 31, 33, 38, 41, 46] (by kernel_rfl)) ⟨(((Chg.refl [] w4).step0 c19 (by omega)).step0 c21 (by omega)), h178.sl, h176.sl⟩
  have h180 := h171.keep0 c19 (by omega)
  refine ops_callr (by kernel_rfl) (by kernel_rfl) (by kernel_rfl) (digits_ok (m.at_) (by omega) (by omega) w29 h180) ?_
  rintro v18 w32 ⟨h179, c22⟩
  have z75 := c22.size
  refine ops_nil ?_
  have h181 := h172.keep0 c22 (by omega)
  refine nx_any ⟨h181, trivial⟩ ?_
  refine any_3 5 (bm 21 261631) 9 (bm 21 262111) 18 (bm 21 523743) (by kernel_rfl) rfl (by kernel_rfl) rfl (by kernel_rfl) rfl (by kernel_rfl) ?_ ?_ ?_
  refine ops_toB (b := m.cls) (by kernel_rfl) (by kernel_rfl) (by kernel_rfl) (by kernel_rfl) (by kernel_rfl) (by first | omega | (simp only [List.length_append, List.length_cons, List.length_nil, List.length_take, List.length_drop, List.length_map]; omega)) (fun v19 w33 h182 c23 z76 => ?_)
  have z77 := c23.size
  refine ops_nil ?_
  have h183 := h181.keep0 c23 (by omega)
  refine nx_any ⟨h183, trivial⟩ ?_
  have h184 := h167.keep c22 (by omega) (fun _ _ _ => by simp)
  have h185 := h184.keep c23 (by omega) (fun _ _ _ => by simp)
  have h186 := h179.keep c23 (by omega) (fun _ _ _ => by simp)
  exact any_use hs6 (v15, w4.heap.size, w33.heap.size, v19, w32.heap.size, w33.heap.size, v18, w29.heap.size, w33.heap.size) (proj_sub [1, 2, 3, 31, 34, 37, 42, 46] (by kernel_rfl)) ⟨((((Chg.refl [] w4).step0 c19 (by omega)).step0 c22 (by omega)).step0 c23 (by omega)), h185.sl, h182.sl, h186.sl⟩
  refine ops_toB (b := m.fr) (by kernel_rfl) (by kernel_rfl) (by kernel_rfl) (by kernel_rfl) (by kernel_rfl) (by first | omega | (simp only [List.length_append, List.length_cons, List.length_nil, List.length_take, List.length_drop, List.length_map]; omega)) (fun v20 w34 h187 c24 z78 => ?_)
  have z79 := c24.size
  refine ops_nil ?_
  have h188 := h181.keep0 c24 (by omega)
  refine nx_any ⟨h188, trivial⟩ ?_
  have h189 := h167.keep c22 (by omega) (fun _ _ _ => by simp)
  have h190 := h189.keep c24 (by omega) (fun _ _ _ => by simp)
  have h191 := h179.keep c24 (by omega) (fun _ _ _ => by simp)
  exact any_use hs7 (v15, w4.heap.size, w34.heap.size, v20, w32.heap.size, w34.heap.size, v18, w29.heap.size, w34.heap.size) (proj_sub [1, 2, 3, 31, 33, 38, 42, 46] (by kernel_rfl)) ⟨((((Chg.refl [] w4).step0 c19 (by omega)).step0 c22 (by omega)).step0 c24 (by omega)), h190.sl, h187.sl, h191.sl⟩
  have h193 := h180.keep0 c22 (by omega)
  refine ops_callr (by kernel_rfl) (by kernel_rfl) (by kernel_rfl) (digits_ok ((m.to.length : Int)) (by omega) (by omega) w32 h193) ?_
  rintro v21 w35 ⟨h192, c25⟩
  have z80 := c25.size
  refine ops_nil ?_
  have h194 := h181.keep0 c25 (by omega)
  refine nx_any ⟨h194, trivial⟩ ?_
  refine any_2 5 (bm 21 523775) 9 (bm 21 524255) (by kernel_rfl) rfl (by kernel_rfl) rfl (by kernel_rfl) ?_ ?_
  refine ops_toB (b := m.cls) (by kernel_rfl) (by kernel_rfl) (by kernel_rfl) (by kernel_rfl) (by kernel_rfl) (by first | omega | (simp only [List.length_append, List.length_cons, List.length_nil, List.length_take, List.length_drop, List.length_map]; omega)) (fun v22 w36 h195 c26 z81 => ?_)
  have z82 := c26.size
  refine ops_nil ?_
  have h196 := h194.keep0 c26 (by omega)
  refine nx_any ⟨h196, trivial⟩ ?_
  have h197 := h167.keep c22 (by omega) (fun _ _ _ => by simp)
  have h198 := h197.keep c25 (by omega) (fun _ _ _ => by simp)
  have h199 := h198.keep c26 (by omega) (fun _ _ _ => by simp)
  have h200 := h179.keep c25 (by omega) (fun _ _ _ => by simp)
  have h201 := h200.keep c26 (by omega) (fun _ _ _ => by simp)
  have h202 := h192.keep c26 (by omega) (fun _ _ _ => by simp)
  exact any_use hs3 (v15, w4.heap.size, w36.heap.size, v22, w35.heap.size, w36.heap.size, v18, w29.heap.size, w36.heap.size, v21, w32.heap.size, w36.heap.size) (proj_sub [1, 2, 3, 31, 34, 37, 42, 47] (by kernel_rfl)) ⟨(((((Chg.refl [] w4).step0 c19 (by omega)).step0 c22 (by omega)).step0 c25 (by omega)).step0 c26 (by omega)), h199.sl, h195.sl, h201.sl, h202.sl⟩
  refine ops_toB (b := m.fr) (by kernel_rfl) (by kernel_rfl) (by kernel_rfl) (by kernel_rfl) (by kernel_rfl) (by first | omega | (simp only [List.length_append, List.length_cons, List.length_nil, List.length_take, List.length_drop, List.length_map]; omega)) (fun v23 w37 h203 c27 z83 => ?_)
  have z84 := c27.size
  refine ops_nil ?_
  have h204 := h194.keep0 c27 (by omega)
  refine nx_any ⟨h204, trivial⟩ ?_
  have h205 := h167.keep c22 (by omega) (fun _ _ _ => by simp)
  have h206 := h205.keep c25 (by omega) (fun _ _ _ => by simp)
  have h207 := h206.keep c27 (by omega) (fun _ _ _ => by simp)
  have h208 := h179.keep c25 (by omega) (fun _ _ _ => by simp)
  have h209 := h208.keep c27 (by omega) (fun _ _ _ => by simp)
  have h210 := h192.keep c27 (by omega) (fun _ _ _ => by simp)
  exact any_use hs4 (v15, w4.heap.size, w37.heap.size, v23, w35.heap.size, w37.heap.size, v18, w29.heap.size, w37.heap.size, v21, w32.heap.size, w37.heap.size) (proj_sub [1, 2, 3, 31, 33, 38, 42, 47] (by kernel_rfl)) ⟨(((((Chg.refl [] w4).step0 c19 (by omega)).step0 c22 (by omega)).step0 c25 (by omega)).step0 c27 (by omega)), h207.sl, h203.sl, h209.sl, h210.sl⟩
  refine ops_toB (b := m.cls) (by kernel_rfl) (by kernel_rfl) (by kernel_rfl) (by kernel_rfl) (by kernel_rfl) (by first | omega | (simp only [List.length_append, List.length_cons, List.length_nil, List.length_take, List.length_drop, List.length_map]; omega)) (fun v24 w38 h211 c28 z85 => ?_)
  have z86 := c28.size
  refine ops_nil ?_
  have h212 := h6.keep0 c28 (by omega)
  refine nx_any ⟨h212, trivial⟩ ?_
  refine any_2 2 (bm 21 253439) 9 (bm 21 253947) (by kernel_rfl) rfl (by kernel_rfl) rfl (by kernel_rfl) ?_ ?_
  have h214 := hg.keep0 c1 (by omega)
  have h215 := h214.keep0 c2 (by omega)
  have h216 := h215.keep0 c3 (by omega)
  have h217 := h216.keep0 c4 (by omega)
  have h218 := h217.keep0 c28 (by omega)
  refine ops_callr (by kernel_rfl) (by kernel_rfl) (by kernel_rfl) (digits_ok (m.id) (by omega) (by omega) w38 h218) ?_
  rintro v25 w39 ⟨h213, c29⟩
  have z87 := c29.size
  refine ops_nil ?_
  have h219 := h212.keep0 c29 (by omega)
  refine nx_any ⟨h219, trivial⟩ ?_
  have h220 := h211.keep c29 (by omega) (fun _ _ _ => by simp)
  exact any_use hs8 (v25, w38.heap.size, w39.heap.size, v24, w4.heap.size, w39.heap.size) (proj_sub [1, 2, 3, 31, 34, 37, 41, 46] (by kernel_rfl)) ⟨(((Chg.refl [] w4).step0 c28 (by omega)).step0 c29 (by omega)), h213.sl, h220.sl⟩
  refine ops_toB (b := m.fr) (by kernel_rfl) (by kernel_rfl) (by kernel_rfl) (by kernel_rfl) (by kernel_rfl) (by first | omega | (simp only [List.length_append, List.length_cons, List.length_nil, List.length_take, List.length_drop, List.length_map]; omega)) (fun v26 w40 h221 c30 z88 => ?_)
  have z89 := c30.size
  refine ops_nil ?_
  have h222 := h212.keep0 c30 (by omega)
  refine nx_any ⟨h222, trivial⟩ ?_
  have h223 := h211.keep c30 (by omega) (fun _ _ _ => by simp)
  exact any_use hs10 (v24, w4.heap.size, w40.heap.size, v26, w38.heap.size, w40.heap.size) (proj_sub [1, 2, 3, 30, 34, 38, 41, 46] (by kernel_rfl)) ⟨(((Chg.refl [] w4).step0 c28 (by omega)).step0 c30 (by omega)), h223.sl, h221.sl⟩
  refine ops_toB (b := m.fr) (by kernel_rfl) (by kernel_rfl) (by kernel_rfl) (by kernel_rfl) (by kernel_rfl) (by first | omega | (simp only [List.length_append, List.length_cons, List.length_nil, List.length_take, List.length_drop, List.length_map]; omega)) (fun v27 w41 h224 c31 z90 => ?_)
  have z91 := c31.size
  refine ops_nil ?_
  have h225 := h6.keep0 c31 (by omega)
  refine nx_any ⟨h225, trivial⟩ ?_
  refine any_2 2 (bm 21 253919) 5 (bm 21 253947) (by kernel_rfl) rfl (by kernel_rfl) rfl (by kernel_rfl) ?_ ?_
  have h227 := hg.keep0 c1 (by omega)
  have h228 := h227.keep0 c2 (by omega)
  have h229 := h228.keep0 c3 (by omega)
  have h230 := h229.keep0 c4 (by omega)
  have h231 := h230.keep0 c31 (by omega)
  refine ops_callr (by kernel_rfl) (by kernel_rfl) (by kernel_rfl) (digits_ok (m.id) (by omega) (by omega) w41 h231) ?_
  rintro v28 w42 ⟨h226, c32⟩
  have z92 := c32.size
  refine ops_nil ?_
  have h232 := h225.keep0 c32 (by omega)
  refine nx_any ⟨h232, trivial⟩ ?_
  have h233 := h224.keep c32 (by omega) (fun _ _ _ => by simp)
  exact any_use hs9 (v28, w41.heap.size, w42.heap.size, v27, w4.heap.size, w42.heap.size) (proj_sub [1, 2, 3, 31, 33, 38, 41, 46] (by kernel_rfl)) ⟨(((Chg.refl [] w4).step0 c31 (by omega)).step0 c32 (by omega)), h226.sl, h233.sl⟩
  refine ops_toB (b := m.cls) (by kernel_rfl) (by kernel_rfl) (by kernel_rfl) (by kernel_rfl) (by kernel_rfl) (by first | omega | (simp only [List.length_append, List.length_cons, List.length_nil, List.length_take, List.length_drop, List.length_map]; omega)) (fun v29 w43 h234 c33 z93 => ?_)
  have z94 := c33.size
  refine ops_nil ?_
  have h235 := h225.keep0 c33 (by omega)
  refine nx_any ⟨h235, trivial⟩ ?_
  have h236 := h224.keep c33 (by omega) (fun _ _ _ => by simp)
  exact any_use hs10 (v29, w41.heap.size, w43.heap.size, v27, w4.heap.size, w43.heap.size) (proj_sub [1, 2, 3, 30, 34, 38, 41, 46] (by kernel_rfl)) ⟨(((Chg.refl [] w4).step0 c31 (by omega)).step0 c33 (by omega)), h234.sl, h236.sl⟩
  rintro v0 w44 ⟨h237, h238⟩
  replace h237 : Chg [] (w3.heap.size) w3 w44 := h237
  replace h238 : OwnBB w44 w1.heap.size v0 [Lib.itoa (m.id), m.cls, m.fr, Lib.itoa (m.at_), Lib.itoa (m.to.length : Int)] := h238
  have z95 := h237.size
  have hmp : msgP m := ⟨hck, by omega, by omega, by assumption⟩
  have hsh := partsM_short hmp hat
  have h100 := hck.2.1
  refine at_seq (at_seq (at_region ?_))
  refine ops_run2 (l' := [(1, .pointer (some ⟨b1, 0, none⟩)), (2, .slice none 0 0), (3, .int .i64 0), (4, v0), (50, .pointer (some ⟨b1, 3, none⟩))]) (by kernel_rfl) ?_
  have h239 := h4.keep0 c3 (by omega)
  have h240 := h239.keep0 h237 (by omega)
  refine ops_loadB (i := 3) (v := tv) (by kernel_rfl) (by kernel_rfl) (by kernel_rfl) (by kernel_rfl) h240 (by kernel_rfl) ?_
  have h241 := h2.keep0 c2 (by omega)
  have h242 := h241.keep0 c3 (by omega)
  have h243 := h242.keep0 h237 (by omega)
  refine ops_len (e := 9) (by kernel_rfl) (by kernel_rfl) (by kernel_rfl) (by kernel_rfl) h243 ?_
  refine ops_run1 (l' := [(1, .pointer (some ⟨b1, 0, none⟩)), (2, .slice none 0 0), (3, .int .i64 0), (4, v0), (51, tv), (52, .int .i64 ((m.to.length : Int))), (53, .int .i64 0)]) (by kernel_rfl) ?_
  refine ops_nil (nx_seq (at_block ?_))
  refine at_loop (X := Value × Nat) (fun x_ => [(1, .pointer (some ⟨b1, 0, none⟩)), (2, .slice none 0 0), (3, .int .i64 0), (4, x_.1), (51, tv), (52, .int .i64 ((m.to.length : Int))), (53, .int .i64 ((x_.2 : Int)))]) (fun x_ W12 => Chg [] (w1.heap.size) w44 W12 ∧ OwnBB W12 w1.heap.size x_.1 ([Lib.itoa (m.id), m.cls, m.fr, Lib.itoa (m.at_), Lib.itoa (m.to.length : Int)] ++ m.to.take x_.2) ∧ (x_.2 ≤ m.to.length)) (fun x_ => m.to.length - x_.2) (v0, 0) (proj_sub [1, 2, 3, 4, 51, 52, 53] (by kernel_rfl)) ⟨((Chg.refl [] w44).to (by omega) (by simp)), h238, (show 0 ≤ m.to.length by first | omega | (simp only [List.length_append, List.length_cons, List.length_nil, List.length_take, List.length_drop, List.length_map]; omega))⟩ ?_
  rintro ⟨v1, k⟩ w45 ⟨h244, h245, h246⟩
  replace h244 : Chg [] (w1.heap.size) w44 w45 := h244
  replace h245 : OwnBB w45 w1.heap.size v1 ([Lib.itoa (m.id), m.cls, m.fr, Lib.itoa (m.at_), Lib.itoa (m.to.length : Int)] ++ m.to.take k) := h245
  replace h246 : (k ≤ m.to.length) := h246
  have z96 := h244.size
  refine at_seq (at_region ?_)
  refine ops_run1 (l' := [(1, .pointer (some ⟨b1, 0, none⟩)), (2, .slice none 0 0), (3, .int .i64 0), (4, v1), (51, tv), (52, .int .i64 ((m.to.length : Int))), (53, .int .i64 ((k : Int))), (54, .bool (decide (((k : Int) : Int) < ((m.to.length : Int) : Int))))]) (by kernel_rfl) ?_
  refine ops_nil (nx_seq (at_seq ?_))
  refine at_ifp (((k : Int) : Int) < ((m.to.length : Int) : Int)) (by kernel_rfl) (fun q5 => ?_) (fun q5 => ?_)
  refine at_skip (nx_seq (at_seq (at_block (at_seq (at_region ?_)))))
  have h247 := h243.keep0 h244 (by omega)
  refine ops_idx (e := 9) (i := (k : Int)) (kd := .i64) k (by kernel_rfl) (by kernel_rfl) (by kernel_rfl) (by kernel_rfl) (by kernel_rfl) (by kernel_rfl) h247 (by omega) (by first | omega | (simp only [List.length_append, List.length_cons, List.length_nil, List.length_take, List.length_drop, List.length_map]; omega)) (fun a1 h248 => ?_)
  have h249 := cell_sAt (l := m.to) (j := k) h248 (by omega)
  refine ops_load (by kernel_rfl) (by kernel_rfl) (by kernel_rfl) (by kernel_rfl) h249 ?_
  have hpl := hto (m.to.getD k []) (getD_mem (by omega))
  refine ops_run1 (l' := [(1, .pointer (some ⟨b1, 0, none⟩)), (2, .slice none 0 0), (3, .int .i64 0), (4, v1), (6, S (m.to.getD k [])), (51, tv), (52, .int .i64 ((m.to.length : Int))), (53, .int .i64 ((k : Int)))]) (by kernel_rfl) ?_
  refine ops_nil (nx_seq (at_region ?_))
  refine ops_run2 (l' := [(1, .pointer (some ⟨b1, 0, none⟩)), (2, .slice none 0 0), (3, .int .i64 0), (4, v1), (51, tv), (52, .int .i64 ((m.to.length : Int))), (53, .int .i64 ((k : Int))), (57, v1), (58, S (m.to.getD k []))]) (by kernel_rfl) ?_
  refine ops_toB (b := m.to.getD k []) (by kernel_rfl) (by kernel_rfl) (by kernel_rfl) (by kernel_rfl) (by kernel_rfl) (by first | omega | (simp only [List.length_append, List.length_cons, List.length_nil, List.length_take, List.length_drop, List.length_map]; omega)) (fun v30 w46 h250 c34 z97 => ?_)
  have z98 := c34.size
  refine ops_litV (e := 22) [v30] (by kernel_rfl) (by kernel_rfl) (by kernel_rfl) (by kernel_rfl) (by intro v hv; simp only [List.mem_cons, List.not_mem_nil, or_false] at hv; rcases hv with rfl; exact h250.sl.cells1) rfl (by decide) (fun v31 w47 h251 c35 z99 => ?_)
  have z100 := c35.size
  have h252 : OwnBB w47 (w46.heap.size) v31 [m.to.getD k []] := ownBB_lit rfl h251 c35 ⟨ElB.of h250.sl h250.sl.hi_le (by simp), trivial⟩
  have h253 := h245.keep0 c34
  have h254 := h253.keep0 c35
  have h256 := h250.keep c35 (by omega) (fun _ _ _ => by simp)
  refine ops_appendBB (e := 22) (by_ := 24) (l1 := ([Lib.itoa (m.id), m.cls, m.fr, Lib.itoa (m.at_), Lib.itoa (m.to.length : Int)] ++ m.to.take k)) (l2 := [m.to.getD k []]) (by kernel_rfl) (by kernel_rfl) (by kernel_rfl) (by kernel_rfl) (by kernel_rfl) (by kernel_rfl) (by kernel_rfl) h254 h251.1.sl ⟨ElB.of h256.sl h256.sl.hi_le (fun b hb => by have := (OwnBB.slice h245) b hb; omega), trivial⟩ (by intro u hu; simp only [List.mem_cons, List.not_mem_nil, or_false] at hu; subst hu; exact sl_one h256.sl) (by first | omega | (simp only [List.length_append, List.length_cons, List.length_nil, List.length_take, List.length_drop, List.length_map]; omega)) (by first | omega | (simp only [List.length_append, List.length_cons, List.length_nil, List.length_take, List.length_drop, List.length_map]; omega)) (fun v32 w48 h255 c36 c37 => ?_)
  have z101 := c36.size
  refine ops_run1 (l' := [(1, .pointer (some ⟨b1, 0, none⟩)), (2, .slice none 0 0), (3, .int .i64 0), (4, v32), (51, tv), (52, .int .i64 ((m.to.length : Int))), (53, .int .i64 ((k : Int)))]) (by kernel_rfl) ?_
  refine ops_nil (nx_blk (nx_seq (at_region ?_)))
  refine ops_add (a := (k : Int)) (b := 1) (kd := .i64) (by kernel_rfl) (by kernel_rfl) (by kernel_rfl) (by kernel_rfl) (show (-9223372036854775808 : Int) ≤ ((k : Int)) + 1 by omega) (show ((k : Int)) + 1 ≤ (9223372036854775807 : Int) by omega) ?_
  refine ops_run1 (l' := [(1, .pointer (some ⟨b1, 0, none⟩)), (2, .slice none 0 0), (3, .int .i64 0), (4, v32), (51, tv), (52, .int .i64 ((m.to.length : Int))), (53, .int .i64 (((k : Int)) + 1))]) (by kernel_rfl) ?_
  refine ops_nil ?_
  have e2 : (((k : Int)) + 1 : Int) = (((k + 1) : Nat) : Int) := by omega
  refine nx_round (v32, k + 1) (proj_subE (l1 := [(1, .pointer (some ⟨b1, 0, none⟩)), (2, .slice none 0 0), (3, .int .i64 0), (4, v32), (51, tv), (52, .int .i64 ((m.to.length : Int))), (53, .int .i64 (((k : Int)) + 1))]) (l2 := [(1, .pointer (some ⟨b1, 0, none⟩)), (2, .slice none 0 0), (3, .int .i64 0), (4, v32), (51, tv), (52, .int .i64 ((m.to.length : Int))), (53, .int .i64 ((((k + 1) : Nat) : Int)))]) (by kernel_rfl) (by simp only [e2]) (by kernel_rfl)) ⟨((((((Chg.refl [] w44).to (B' := w1.heap.size) (r' := []) (by omega) (by simp)).step0 h244 (by omega)).step0 c34 (by omega)).step0 c35 (by omega)).step0 c36 (by omega)), (take_snoc (ps := [Lib.itoa (m.id), m.cls, m.fr, Lib.itoa (m.at_), Lib.itoa (m.to.length : Int)]) (ls := m.to) (k := k) (by omega) ▸ h255), (show (k + 1) ≤ m.to.length by first | omega | (simp only [List.length_append, List.length_cons, List.length_nil, List.length_take, List.length_drop, List.length_map]; omega))⟩ (show m.to.length - (k + 1) < m.to.length - k by omega)
  refine at_exit (ex_seq (ex_inv (ex_here (nx_seq (at_seq (at_region ?_))))))
  refine ops_run2 (l' := [(2, .slice none 0 0), (3, .int .i64 0), (63, v1), (64, .pointer (some ⟨b1, 5, none⟩))]) (by kernel_rfl) ?_
  have h257 := h240.keep0 h244 (by omega)
  refine ops_loadB (i := 5) (v := bv) (by kernel_rfl) (by kernel_rfl) (by kernel_rfl) (by kernel_rfl) h257 (by kernel_rfl) ?_
  have h259 := h3.keep0 c2 (by omega)
  have h260 := h259.keep0 c3 (by omega)
  have h261 := h260.keep0 h237 (by omega)
  have h262 := h261.keep0 h244 (by omega)
  refine ops_litV (e := 22) [bv] (by kernel_rfl) (by kernel_rfl) (by kernel_rfl) (by kernel_rfl) (by intro v hv; simp only [List.mem_cons, List.not_mem_nil, or_false] at hv; rcases hv with rfl; exact h262.cells1) rfl (by decide) (fun v33 w49 h258 c38 z102 => ?_)
  have z103 := c38.size
  have h263 : OwnBB w49 (w45.heap.size) v33 [m.body] := ownBB_lit rfl h258 c38 ⟨ElB.of h262 h262.hi_le (by simp), trivial⟩
  have h264 := h245.keep0 c38
  have h266 := h262.keep0 c38 (by omega)
  refine ops_appendBB (e := 22) (by_ := 24) (l1 := ([Lib.itoa (m.id), m.cls, m.fr, Lib.itoa (m.at_), Lib.itoa (m.to.length : Int)] ++ m.to.take k)) (l2 := [m.body]) (by kernel_rfl) (by kernel_rfl) (by kernel_rfl) (by kernel_rfl) (by kernel_rfl) (by kernel_rfl) (by kernel_rfl) h264 h258.1.sl ⟨ElB.of h266 h266.hi_le (fun b hb => by have := (OwnBB.slice h245) b hb; omega), trivial⟩ (by intro u hu; simp only [List.mem_cons, List.not_mem_nil, or_false] at hu; subst hu; exact sl_one h266) (by first | omega | (simp only [List.length_append, List.length_cons, List.length_nil, List.length_take, List.length_drop, List.length_map]; omega)) (by first | omega | (simp only [List.length_append, List.length_cons, List.length_nil, List.length_take, List.length_drop, List.length_map]; omega)) (fun v34 w50 h265 c39 c40 => ?_)
  have z104 := c39.size
  have h268 := hg.keep0 c1 (by omega)
  have h269 := h268.keep0 c2 (by omega)
  have h270 := h269.keep0 c3 (by omega)
  have h271 := h270.keep0 h237 (by omega)
  have h272 := h271.keep0 h244 (by omega)
  have h273 := h272.keep0 c38 (by omega)
  have h274 := h273.keep0 c39 (by omega)
  refine ops_callr (by kernel_rfl) (by kernel_rfl) (by kernel_rfl) (rPut_ok h265.bbs (Nat.le_refl _) (by simp only [List.length_append, List.length_cons, List.length_nil, List.length_take]; omega) (by rw [List.take_of_length_le (by omega)]; exact hsh) h274) ?_
  rintro v35 w51 ⟨h267, c41⟩
  have z105 := c41.size
  refine ops_run2 (l' := [(2, v35), (3, .int .i64 0)]) (by kernel_rfl) ?_
  refine ops_nil (nx_seq ?_)
  refine at_ret (rs := [.tmp 2, .tmp 3]) (vs := [v35, .int .i64 0]) rfl (by kernel_rfl) ?_
  have hres := h267.sl
  rw [List.take_of_length_le (by omega : m.to.length ≤ k)] at hres
  exact ⟨_, rfl, (((((((((Chg.refl [] w).step0 c1 (by omega)).step0 c2 (by omega)).step0 c3 (by omega)).step0 h237 (by omega)).step0 h244 (by omega)).step0 c38 (by omega)).step0 c39 (by omega)).step0 c41 (by omega)), .inl ⟨hmp, _, rfl, hres.wide (by omega) (Nat.le_refl _) (Nat.le_refl _)⟩⟩
  rw [if_neg q1]
  have hnck := q1
  refine ops_run17 (l' := [(1, .pointer (some ⟨b1, 0, none⟩)), (2, .slice none 0 0), (3, .int .i64 0), (28, .bool true)]) (by kernel_rfl) ?_
  refine ops_nil (nx_seq ?_)
  refine at_ift (by kernel_rfl) ?_
  refine at_seq (at_region ?_)
  refine ops_run2 (l' := [(1, .pointer (some ⟨b1, 0, none⟩)), (2, .slice none 0 0), (3, .int .i64 150)]) (by kernel_rfl) ?_
  refine ops_nil (nx_seq ?_)
  refine at_ret (rs := [.tmp 2, .tmp 3]) (vs := [.slice none 0 0, .int .i64 150]) rfl (by kernel_rfl) ?_
  exact ⟨_, rfl, (((Chg.refl [] w).step0 c1 (by omega)).step0 c2 (by omega)), .inr ⟨fun hk => (by rcases hk with ⟨g1, g2, g3, g4⟩; first | omega | contradiction), rfl⟩⟩
theorem text_ok {w : World} {b2 : Nat} {rv : Value} (hb : Blk w b2 [rv] 22) {lo hi : Nat} {r : Bytes} (hr : Bs w lo hi rv r) (hs : r.length < 4611686018427387904) (hd : b2 < lo ∨ hi ≤ b2) :
    Rp Tryd.prog 35 [.pointer (some ⟨b2, 0, none⟩)].toArray w (fun v w2 => ∃ x r' rv', CutR r x r' ∧ v = S x ∧ Blk w2 b2 [rv'] 22 ∧ Bs w2 lo hi rv' r' ∧ Chg [b2] w.heap.size w w2) (fun ch w2 => ch = thrown 121 ∧ (∀ x r', ¬ CutR r x r') ∧ Chg [b2] w.heap.size w w2) := by
  have hhi := hr.hi_le
  have hbl := hb.lt
  refine enter (n := 17) (args := [.pointer (some ⟨b2, 0, none⟩)]) Tryd.func35 rfl rfl (Nat.le_of_ble_eq_true (by kernel_rfl)) ?_
  refine at_seq (at_region ?_)
  refine ops_run1 (l' := [(0, .pointer (some ⟨b2, 0, none⟩)), (1, S [])]) (by kernel_rfl) ?_
  refine ops_nil (nx_seq (at_seq (at_region ?_)))
  refine ops_loadB (i := 0) (v := rv) (by kernel_rfl) (by kernel_rfl) (by kernel_rfl) (by kernel_rfl) hb (by kernel_rfl) ?_
  refine ops_callr (by kernel_rfl) (by kernel_rfl) (by kernel_rfl) (cut_ok r hr (by first | omega | (simp only [List.length_append, List.length_cons, List.length_nil, List.length_take, List.length_drop, List.length_map]; omega)) ) ?_
  rintro _ w1 ⟨c1, (⟨n1, y1, v1, rfl, h1, h2, h3, h4⟩ | ⟨h1, rfl⟩)⟩
  have z1 := c1.size
  refine ops_run5 (l' := [(0, .pointer (some ⟨b2, 0, none⟩)), (1, S []), (2, v1), (3, .int .i64 ((n1 : Int)))]) (by kernel_rfl) ?_
  refine ops_nil (nx_seq (at_seq (at_region ?_)))
  refine ops_run2 (l' := [(0, .pointer (some ⟨b2, 0, none⟩)), (1, S []), (2, v1), (3, .int .i64 ((n1 : Int))), (10, .bool (decide (((n1 : Int) : Int) > (0 : Int))))]) (by kernel_rfl) ?_
  refine ops_callp (by kernel_rfl) (by kernel_rfl) (by kernel_rfl) (entry_must (decide (((n1 : Int) : Int) > (0 : Int))) w1) ?_ ?_
  rintro _ w2 ⟨q1, rfl, hwq⟩
  rw [hwq]
  clear hwq w2
  replace q1 := of_decide_eq_true q1
  refine ops_nil (nx_seq (at_seq (at_region ?_)))
  have h5 := hb.keep0 c1 (by omega)
  refine ops_loadB (i := 0) (v := rv) (by kernel_rfl) (by kernel_rfl) (by kernel_rfl) (by kernel_rfl) h5 (by kernel_rfl) ?_
  refine ops_run1 (l' := [(0, .pointer (some ⟨b2, 0, none⟩)), (1, S []), (2, v1), (12, rv), (13, .int .i64 ((n1 : Int)))]) (by kernel_rfl) ?_
  have h6 := hr.keep0 c1 (by omega)
  refine ops_from (e := 5) (i := (n1 : Int)) (kd := .i64) n1 (by kernel_rfl) (by kernel_rfl) (by kernel_rfl) (by kernel_rfl) (by kernel_rfl) (by kernel_rfl) h6 (by first | omega | (simp only [List.length_append, List.length_cons, List.length_nil, List.length_take, List.length_drop, List.length_map]; omega)) (by first | omega | (simp only [List.length_append, List.length_cons, List.length_nil, List.length_take, List.length_drop, List.length_map]; omega)) (fun v2 h7 => ?_)
  replace h7 := bs_from h7
  refine ops_store (i := 0) (v := v2) [v2] (by kernel_rfl) (by kernel_rfl) (by kernel_rfl) (by kernel_rfl) h7.one (by kernel_rfl) h5 (by kernel_rfl) (by kernel_rfl) (fun w3 h9 c2 z2 => ?_)
  have z3 := c2.size
  refine ops_nil (nx_seq (at_seq (at_region ?_)))
  refine ops_run1 (l' := [(1, S []), (15, v1)]) (by kernel_rfl) ?_
  have h10 := h4.keep1 c2 (by omega) (by omega)
  refine ops_toS (b := y1) (by kernel_rfl) (by kernel_rfl) (by kernel_rfl) (by kernel_rfl) (by kernel_rfl) h10 ?_
  refine ops_run1 (l' := [(1, S y1)]) (by kernel_rfl) ?_
  refine ops_nil (nx_seq ?_)
  refine at_ret (rs := [.tmp 1]) (vs := [S y1]) rfl (by kernel_rfl) ?_
  have h11 := h7.keep1 c2 (by omega) (by omega)
  exact .inl ⟨_, rfl, _, _, _, h3, rfl, h9, h11, (((Chg.refl [b2] w).step0 c1 (by omega)).step c2 (by omega) (by intro y hy; simp only [List.mem_cons, List.not_mem_nil, or_false, false_or] at hy ⊢; try omega))⟩
  rintro ch w2 a ha ⟨q1, hch, hwq⟩
  rw [hwq]
  replace q1 := of_decide_eq_false q1
  exact out_panic ha (.inr ⟨_, rfl, hch, (fun x r' h => by omega), ((Chg.refl [b2] w).step0 c1 (by omega))⟩)
  have z4 := c1.size
  refine ops_run5 (l' := [(0, .pointer (some ⟨b2, 0, none⟩)), (1, S []), (2, .slice none 0 0), (3, .int .i64 0)]) (by kernel_rfl) ?_
  refine ops_nil (nx_seq (at_seq (at_region ?_)))
  refine ops_run2 (l' := [(0, .pointer (some ⟨b2, 0, none⟩)), (1, S []), (2, .slice none 0 0), (3, .int .i64 0), (10, .bool false)]) (by kernel_rfl) ?_
  refine ops_callp (by kernel_rfl) (by kernel_rfl) (by kernel_rfl) (entry_must (false) w1) (fun v w' h => by cases h.1) ?_
  rintro ch w4 a ha ⟨q2, hch, hwq⟩
  rw [hwq]
  exact out_panic ha (.inr ⟨_, rfl, hch, h1, ((Chg.refl [b2] w).step0 c1 (by omega))⟩)
theorem dnumber_ok {w : World} {b3 b2 : Nat} (h3 : Blk w b3 [.func (.func 35) #[] #[.pointer (some ⟨b2, 0, none⟩)]] 73) {rv : Value} (hb : Blk w b2 [rv] 22) {lo hi : Nat} {r : Bytes} (hr : Bs w lo hi rv r) (hs : r.length < 281474976710656) (hd : b2 < lo ∨ hi ≤ b2) (hg : Gl w) (hN : NG ≤ b2) :
    Rp Tryd.prog 38 [.pointer (some ⟨b3, 0, none⟩)].toArray w (fun v w2 => ∃ n x r' rv', CutR r x r' ∧ Lib.parseIntB 64 x = .ok n ∧ v = .int .i64 n ∧ Blk w2 b2 [rv'] 22 ∧ Bs w2 lo hi rv' r' ∧ Chg [b2] w.heap.size w w2) (fun ch w2 => ch = thrown 121 ∧ (∀ n x r', CutR r x r' → Lib.parseIntB 64 x ≠ .ok n) ∧ Chg [b2] w.heap.size w w2) := by
  have hhi := hr.hi_le
  have hbl := hb.lt
  have h3l := h3.lt
  have hgs := hg.size
  refine enter (n := 14) (args := [.pointer (some ⟨b3, 0, none⟩)]) Tryd.func38 rfl rfl (Nat.le_of_ble_eq_true (by kernel_rfl)) ?_
  refine at_seq (at_region ?_)
  refine ops_run1 (l' := [(0, .pointer (some ⟨b3, 0, none⟩)), (1, .int .i64 0)]) (by kernel_rfl) ?_
  refine ops_nil (nx_seq (at_seq (at_region ?_)))
  refine ops_loadB (i := 0) (v := .func (.func 35) #[] #[.pointer (some ⟨b2, 0, none⟩)]) (by kernel_rfl) (by kernel_rfl) (by kernel_rfl) (by kernel_rfl) h3 (by kernel_rfl) ?_
  refine ops_callp (by kernel_rfl) (by kernel_rfl) (by kernel_rfl) (text_ok hb hr (by omega) hd) ?_ ?_
  rintro _ w1 ⟨x1, r1, v1, h1, rfl, h2, h3, c1⟩
  have z1 := c1.size
  have hcl := cut_len h1
  have h5 := hg.keep c1 (by omega) (by intro y hy; simp only [List.mem_cons, List.not_mem_nil, or_false]; omega)
  refine ops_callr (by kernel_rfl) (by kernel_rfl) (by kernel_rfl) (strconv_ParseInt_ok x1 (by first | omega | (simp only [List.length_append, List.length_cons, List.length_nil, List.length_take, List.length_drop, List.length_map]; omega)) w1 h5) ?_
  rintro _ w2 ⟨c2, (⟨n1, h4, rfl⟩ | ⟨h4, n9, T1, p1, rfl⟩)⟩
  have z2 := c2.size
  refine ops_run5 (l' := [(1, .int .i64 0), (2, .int .i64 n1), (3, .nilIface)]) (by kernel_rfl) ?_
  refine ops_nil (nx_seq (at_seq (at_region ?_)))
  refine ops_run2 (l' := [(1, .int .i64 0), (2, .int .i64 n1), (11, .bool true)]) (by kernel_rfl) ?_
  refine ops_callp (by kernel_rfl) (by kernel_rfl) (by kernel_rfl) (entry_must true w2) ?_ (fun ch w' a ha h => by cases h.1)
  rintro _ w3 ⟨_, rfl, hwq⟩
  rw [hwq]
  clear hwq w3
  refine ops_nil (nx_seq (at_seq (at_region ?_)))
  refine ops_run2 (l' := [(1, .int .i64 n1)]) (by kernel_rfl) ?_
  refine ops_nil (nx_seq ?_)
  refine at_ret (rs := [.tmp 1]) (vs := [.int .i64 n1]) rfl (by kernel_rfl) ?_
  have h6 := h2.keep0 c2 (by omega)
  have h7 := h3.keep0 c2 (by omega)
  exact .inl ⟨_, rfl, _, _, _, _, h1, h4, rfl, h6, h7, (((Chg.refl [b2] w).step c1 (by omega) (by intro y hy; simp only [List.mem_cons, List.not_mem_nil, or_false, false_or] at hy ⊢; try omega)).step0 c2 (by omega))⟩
  have z3 := c2.size
  refine ops_run5 (l' := [(1, .int .i64 0), (2, .int .i64 n9), (3, .iface T1 (p1))]) (by kernel_rfl) ?_
  refine ops_nil (nx_seq (at_seq (at_region ?_)))
  refine ops_run2 (l' := [(1, .int .i64 0), (2, .int .i64 n9), (11, .bool false)]) (by kernel_rfl) ?_
  refine ops_callp (by kernel_rfl) (by kernel_rfl) (by kernel_rfl) (entry_must (false) w2) (fun v w' h => by cases h.1) ?_
  rintro ch w4 a ha ⟨q2, hch, hwq⟩
  rw [hwq]
  exact out_panic ha (.inr ⟨_, rfl, hch, fun n x r' h => ((CutR.unique h1 h).1 ▸ h4 n), (((Chg.refl [b2] w).step c1 (by omega) (by intro y hy; simp only [List.mem_cons, List.not_mem_nil, or_false, false_or] at hy ⊢; try omega)).step0 c2 (by omega))⟩)
  rintro ch w1 a ha ⟨hch, hno, c1⟩
  have z4 := c1.size
  exact out_panic ha (.inr ⟨_, rfl, hch, fun n x r' h => absurd h (hno x r'), ((Chg.refl [b2] w).step c1 (by omega) (by intro y hy; simp only [List.mem_cons, List.not_mem_nil, or_false, false_or] at hy ⊢; try omega))⟩)

end Go.Proofs.YtnjkdnbabogcjaaDoor
