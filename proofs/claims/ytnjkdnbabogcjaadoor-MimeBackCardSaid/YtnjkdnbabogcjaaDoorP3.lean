/- A walk, printed by a program of my own (wip/gen/walk.py) from a script of mine. -/
import Derived.Test.YtnjkdnbabogcjaaDoorProg
import Derived.Test.YtnjkdnbabogcjaaDoorL0
import Derived.Test.YtnjkdnbabogcjaaDoorP2
import Derived.Test.YtnjkdnbabogcjaaDoorQ2
import Derived.Test.YtnjkdnbabogcjaaDoorK15
set_option maxHeartbeats 4000000
set_option linter.unusedVariables false
set_option linter.unusedSimpArgs false
set_option maxRecDepth 100000
namespace Go.Proofs.YtnjkdnbabogcjaaDoor
open Go Go.RowKit Go.Kw

theorem slCut1_ok (s : Bytes) (u : UInt8) (hs : s.length < 4611686018427387904) (w : World) : Pu Tryd.prog 99 #[S s, S [u]] w (.tuple #[S (Lib.cut s [u]).1, S (Lib.cut s [u]).2.1, .bool (Lib.cut s [u]).2.2]) := by
  refine enter (n := 23) (args := [S s, S [u]]) Tryd.func99 rfl rfl (Nat.le_of_ble_eq_true (by kernel_rfl)) ?_
  refine at_seq (at_region ?_)
  refine ops_run3 (l' := [(0, S s), (1, S [u]), (4, S []), (5, S []), (6, .bool false)]) (by kernel_rfl) ?_
  refine ops_nil (nx_seq (at_seq (at_seq (at_region ?_))))
  refine ops_run2 (l' := [(0, S s), (1, S [u]), (4, S []), (5, S []), (6, .bool false), (8, S s), (9, S [u])]) (by kernel_rfl) ?_
  refine ops_callr (by kernel_rfl) (by kernel_rfl) (by kernel_rfl) (stringslite_Index1_ok s u w) ?_
  rintro _ w1 ⟨rfl, c1⟩
  have z1 := c1.size
  rcases cut_byte s u with ⟨hn, hc⟩ | ⟨i, hi, he, hn, hc⟩
  rw [hc, (indexByte_none hn)]
  refine ops_run1 (l' := [(0, S s), (1, S [u]), (4, S []), (5, S []), (6, .bool false), (7, .int .i64 (-1))]) (by kernel_rfl) ?_
  refine ops_nil (nx_seq (at_seq (at_region ?_)))
  refine ops_run2 (l' := [(0, S s), (1, S [u]), (4, S []), (5, S []), (6, .bool false), (7, .int .i64 (-1)), (12, .bool false)]) (by kernel_rfl) ?_
  refine ops_nil (nx_seq ?_)
  refine at_iff (by kernel_rfl) ?_
  refine at_skip (nx_seq (at_seq (at_region ?_)))
  refine ops_run4 (l' := [(4, S s), (5, S []), (6, .bool false)]) (by kernel_rfl) ?_
  refine ops_nil (nx_seq ?_)
  refine at_ret (rs := [.tmp 4, .tmp 5, .tmp 6]) (vs := [S s, S [], .bool false]) rfl (by kernel_rfl) ?_
  exact ⟨_, rfl, rfl, ((Chg.refl [] w).step0 c1 (by omega))⟩
  rw [hc, (indexByte_some hi he hn)]
  refine ops_run1 (l' := [(0, S s), (1, S [u]), (4, S []), (5, S []), (6, .bool false), (7, .int .i64 ((i : Int)))]) (by kernel_rfl) ?_
  refine ops_nil (nx_seq (at_seq (at_region ?_)))
  refine ops_run2 (l' := [(0, S s), (1, S [u]), (4, S []), (5, S []), (6, .bool false), (7, .int .i64 ((i : Int))), (12, .bool (decide (((i : Int) : Int) ≥ (0 : Int))))]) (by kernel_rfl) ?_
  refine ops_nil (nx_seq ?_)
  refine at_ifp (((i : Int) : Int) ≥ (0 : Int)) (by kernel_rfl) (fun q1 => ?_) (fun q1 => ?_)
  refine at_seq ?_
  refine at_draw (m := 12) (listed := (bm 12 0)) (fun W => True) (by kernel_rfl) (by kernel_rfl) (by kernel_rfl) (fun w2 c2 z2 _ _ => ?_)
  have z3 := c2.size
  refine ⟨trivial, ?_⟩
  refine any_takes [0, 1] (fuel' := 10) (listed' := (bm 12 3)) (l' := [(0, S s), (1, S [u]), (4, S []), (5, S []), (6, .bool false), (7, .int .i64 ((i : Int))), (13, S s), (14, .int .i64 ((i : Int)))]) panK_FB (by kernel_rfl) (by kernel_rfl) (by kernel_rfl) ?_
  refine any_uptoS (q_ := 2) (listed' := (bm 12 7)) (s := s) (i' := (i : Int)) (kd' := .i64) i panK_FB (by kernel_rfl) rfl (by kernel_rfl) (by kernel_rfl) (by kernel_rfl) (by kernel_rfl) (by kernel_rfl) (by kernel_rfl) (by kernel_rfl) (by first | omega | (simp only [List.length_append, List.length_cons, List.length_nil, List.length_take, List.length_drop, List.length_map]; omega)) (by first | omega | (simp only [List.length_append, List.length_cons, List.length_nil, List.length_take, List.length_drop, List.length_map]; omega)) ?_
  refine any_takes [3, 4, 5, 6] (fuel' := 5) (listed' := (bm 12 127)) (l' := [(0, S s), (4, S []), (5, S []), (6, .bool false), (15, S (s.take i)), (16, S s), (17, .int .i64 ((i : Int))), (19, .int .i64 1)]) panK_FB (by kernel_rfl) (by kernel_rfl) (by kernel_rfl) ?_
  refine any_add (q_ := 7) (listed' := (bm 12 255)) (a := (i : Int)) (b := 1) (kd := .i64) panK_FB (by kernel_rfl) rfl (by kernel_rfl) (by kernel_rfl) (by kernel_rfl) (by kernel_rfl) (by kernel_rfl) (by kernel_rfl) (show (-9223372036854775808 : Int) ≤ ((i : Int)) + 1 by omega) (show ((i : Int)) + 1 ≤ (9223372036854775807 : Int) by omega) ?_
  refine any_fromS (q_ := 8) (listed' := (bm 12 511)) (s := s) (i := ((i : Int)) + 1) (kd := .i64) ((i) + 1) panK_FB (by kernel_rfl) rfl (by kernel_rfl) (by kernel_rfl) (by kernel_rfl) (by kernel_rfl) (by kernel_rfl) (by kernel_rfl) (by kernel_rfl) (by first | omega | (simp only [List.length_append, List.length_cons, List.length_nil, List.length_take, List.length_drop, List.length_map]; omega)) (by first | omega | (simp only [List.length_append, List.length_cons, List.length_nil, List.length_take, List.length_drop, List.length_map]; omega)) ?_
  refine any_takes [9, 10, 11] (fuel' := 0) (listed' := (bm 12 4095)) (l' := [(0, S s), (4, S (s.take i)), (5, S (s.drop ((i) + 1))), (6, .bool true)]) panK_FB (by kernel_rfl) (by kernel_rfl) (by kernel_rfl) ?_
  refine any_done (by kernel_rfl) ?_
  refine nx_seq ?_
  refine at_ret (rs := [.tmp 4, .tmp 5, .tmp 6]) (vs := [S (s.take i), S (s.drop ((i) + 1)), .bool true]) rfl (by kernel_rfl) ?_
  exact ⟨_, rfl, rfl, (((Chg.refl [] w).step0 c1 (by omega)).step0 c2 (by omega))⟩
  refine at_skip (nx_seq (at_seq (at_region ?_)))
  refine ops_run4 (l' := [(4, S s), (5, S []), (6, .bool false)]) (by kernel_rfl) ?_
  refine ops_nil (nx_seq ?_)
  refine at_ret (rs := [.tmp 4, .tmp 5, .tmp 6]) (vs := [S s, S [], .bool false]) rfl (by kernel_rfl) ?_
  omega
theorem cut1_ok (s : Bytes) (u : UInt8) (hs : s.length < 4611686018427387904) (w : World) : Pu Tryd.prog 49 #[S s, S [u]] w (.tuple #[S (Lib.cut s [u]).1, S (Lib.cut s [u]).2.1, .bool (Lib.cut s [u]).2.2]) := by
  refine enter (n := 13) (args := [S s, S [u]]) Tryd.func49 rfl rfl (Nat.le_of_ble_eq_true (by kernel_rfl)) ?_
  refine at_seq (at_region ?_)
  refine ops_run3 (l' := [(0, S s), (1, S [u]), (4, S []), (5, S []), (6, .bool false)]) (by kernel_rfl) ?_
  refine ops_nil (nx_seq (at_seq (at_region ?_)))
  refine ops_run2 (l' := [(4, S []), (5, S []), (6, .bool false), (7, S s), (8, S [u])]) (by kernel_rfl) ?_
  refine ops_callr (by kernel_rfl) (by kernel_rfl) (by kernel_rfl) (slCut1_ok s u hs w) ?_
  rintro _ w1 ⟨rfl, c1⟩
  have z1 := c1.size
  refine ops_run6 (l' := [(4, S ((Lib.cut s [u]).1)), (5, S ((Lib.cut s [u]).2.1)), (6, .bool ((Lib.cut s [u]).2.2))]) (by kernel_rfl) ?_
  refine ops_nil (nx_seq ?_)
  refine at_ret (rs := [.tmp 4, .tmp 5, .tmp 6]) (vs := [S ((Lib.cut s [u]).1), S ((Lib.cut s [u]).2.1), .bool ((Lib.cut s [u]).2.2)]) rfl (by kernel_rfl) ?_
  exact ⟨_, rfl, rfl, ((Chg.refl [] w).step0 c1 (by omega))⟩
theorem between_ok (s : Bytes) (w : World) : Rt Tryd.prog 116 #[S s] w fun v w' => ∃ b, v = .func (.func 149) #[] #[.pointer (some ⟨b, 0, none⟩)] ∧ b = w.heap.size ∧ Blk w' b [S s] 9 ∧ Chg [] w.heap.size w w' ∧ w'.heap.size = w.heap.size + 1 := by
  refine enter (n := 4) (args := [S s]) Tryd.func116 rfl rfl (Nat.le_of_ble_eq_true (by kernel_rfl)) ?_
  refine at_seq (at_region ?_)
  refine ops_box (cs := [S s]) (by kernel_rfl) (by kernel_rfl) (by kernel_rfl) (fun b1 w1 e1 h1 c1 z1 => ?_)
  have z2 := c1.size
  refine ops_run1 (l' := [(1, .pointer (some ⟨b1, 0, none⟩)), (2, .nilFunc)]) (by kernel_rfl) ?_
  refine ops_nil (nx_seq (at_seq (at_region ?_)))
  refine ops_run2 (l' := [(2, .func (.func 149) #[] #[.pointer (some ⟨b1, 0, none⟩)])]) (by kernel_rfl) ?_
  refine ops_nil (nx_seq ?_)
  refine at_ret (rs := [.tmp 2]) (vs := [.func (.func 149) #[] #[.pointer (some ⟨b1, 0, none⟩)]]) rfl (by kernel_rfl) ?_
  exact ⟨_, rfl, _, rfl, e1, h1, ((Chg.refl [] w).step0 c1 (by omega)), by omega⟩
theorem between_it (s : Bytes) (hs : s.length < 4611686018427387904) (b : Nat) (hbN : NG ≤ b) : ItSpec Tryd.prog 149 [.pointer (some ⟨b, 0, none⟩)] S (parts s) [b] NG (fun W => Gl W ∧ Blk W b [S s] 9) := by
  rintro L J Jx w hJ1 hJ0 hy hJ ⟨hg, hb⟩
  refine enter (n := 21) (args := [(yv L), .pointer (some ⟨b, 0, none⟩)]) Tryd.func149 rfl rfl (Nat.le_of_ble_eq_true (by kernel_rfl)) ?_
  refine at_block ?_
  refine at_loop (X := (List Bytes) × Bytes) (fun x_ => [(0, (yv L)), (1, .pointer (some ⟨b, 0, none⟩))]) (fun x_ W1 => True ∧ J x_.1 W1 ∧ Blk W1 b [S x_.2] 9 ∧ Gl W1 ∧ (x_.1 ++ parts x_.2 = parts s) ∧ (x_.2.length ≤ s.length)) (fun x_ => x_.2.length) ([], s) (proj_sub [0, 1] (by kernel_rfl)) ⟨trivial, hJ, hb, hg, (show [] ++ parts s = parts s by rfl), (show s.length ≤ s.length by omega)⟩ ?_
  rintro ⟨pre, r⟩ w1 ⟨h1, h2, h3, h4, h5, h6⟩
  replace h1 : True := h1
  replace h2 : J pre w1 := h2
  replace h3 : Blk w1 b [S r] 9 := h3
  replace h4 : Gl w1 := h4
  replace h5 : (pre ++ parts r = parts s) := h5
  replace h6 : (r.length ≤ s.length) := h6
  have z1 := h3.lt
  have hps := h5
  refine at_block (at_seq (at_region ?_))
  refine ops_loadB (i := 0) (v := S r) (by kernel_rfl) (by kernel_rfl) (by kernel_rfl) (by kernel_rfl) h3 (by kernel_rfl) ?_
  refine ops_callr (by kernel_rfl) (by kernel_rfl) (by kernel_rfl) (cut1_ok r 46 (by omega) w1) ?_
  rintro _ w2 ⟨rfl, c1⟩
  have z2 := c1.size
  rcases cut_byte r 46 with ⟨hn, hc⟩ | ⟨i, hi, he, hn, hc⟩
  rw [hc]
  have hpre : pre ++ [r] <+: parts s := ⟨[], by rw [List.append_nil, ← hps, parts_none r hn]⟩
  have hfull : pre ++ [r] = parts s := by rw [← hps, parts_none r hn]
  refine ops_run7 (l' := [(0, (yv L)), (1, .pointer (some ⟨b, 0, none⟩)), (3, S r), (4, S []), (5, .bool false)]) (by kernel_rfl) ?_
  refine ops_nil (nx_seq (at_seq (at_seq (at_region ?_))))
  refine ops_run2 (l' := [(0, (yv L)), (1, .pointer (some ⟨b, 0, none⟩)), (4, S []), (5, .bool false), (12, (yv L)), (13, S r)]) (by kernel_rfl) ?_
  have h7 := hJ0 _ _ _ h2 c1
  have h8 := h3.keep0 c1 (by omega)
  have h9 := h4.keep0 c1 h4.size
  refine ops_yield (L := L) (args := #[S r]) (by kernel_rfl) (by kernel_rfl) (by kernel_rfl) (hy pre r w2 hpre h7) ?_ (fun ch w' a _ h => by rcases h with ⟨e, _⟩ | ⟨e, _⟩ <;> cases e) (fun w' h => by rcases h with ⟨e, _⟩ | ⟨e, _⟩ <;> cases e)
  rintro v w3 (⟨e, hj2, hk⟩ | ⟨e, hj2⟩)
  cases e
  have hb2 := hk.blk h8 (by simp)
  have hg2 := h9.kp hk (Nat.le_refl _)
  refine ops_run5 (l' := [(0, (yv L)), (1, .pointer (some ⟨b, 0, none⟩)), (4, S []), (19, .bool true)]) (by kernel_rfl) ?_
  refine ops_nil (nx_seq ?_)
  refine at_ift (by kernel_rfl) ?_
  refine at_ret (rs := []) (vs := []) rfl (by kernel_rfl) ?_
  exact ⟨_, rfl, .inl (hfull ▸ hj2)⟩
  cases e
  refine ops_run5 (l' := [(0, (yv L)), (1, .pointer (some ⟨b, 0, none⟩)), (4, S []), (19, .bool true)]) (by kernel_rfl) ?_
  refine ops_nil (nx_seq ?_)
  refine at_ift (by kernel_rfl) ?_
  refine at_ret (rs := []) (vs := []) rfl (by kernel_rfl) ?_
  exact ⟨_, rfl, .inr ⟨_, hpre, hj2⟩⟩
  rw [hc]
  have hnx := parts_at r i hi hn he
  have hpre : pre ++ [r.take i] <+: parts s := ⟨parts (r.drop (i + 1)), by rw [← hps, hnx]; simp⟩
  refine ops_run7 (l' := [(0, (yv L)), (1, .pointer (some ⟨b, 0, none⟩)), (3, S (r.take i)), (4, S (r.drop (i + 1))), (5, .bool true)]) (by kernel_rfl) ?_
  refine ops_nil (nx_seq (at_seq (at_seq (at_region ?_))))
  refine ops_run2 (l' := [(0, (yv L)), (1, .pointer (some ⟨b, 0, none⟩)), (4, S (r.drop (i + 1))), (5, .bool true), (12, (yv L)), (13, S (r.take i))]) (by kernel_rfl) ?_
  have h10 := hJ0 _ _ _ h2 c1
  have h11 := h3.keep0 c1 (by omega)
  have h12 := h4.keep0 c1 h4.size
  refine ops_yield (L := L) (args := #[S (r.take i)]) (by kernel_rfl) (by kernel_rfl) (by kernel_rfl) (hy pre (r.take i) w2 hpre h10) ?_ (fun ch w' a _ h => by rcases h with ⟨e, _⟩ | ⟨e, _⟩ <;> cases e) (fun w' h => by rcases h with ⟨e, _⟩ | ⟨e, _⟩ <;> cases e)
  rintro v w4 (⟨e, hj2, hk⟩ | ⟨e, hj2⟩)
  cases e
  have hb2 := hk.blk h11 (by simp)
  have hg2 := h12.kp hk (Nat.le_refl _)
  refine ops_run5 (l' := [(0, (yv L)), (1, .pointer (some ⟨b, 0, none⟩)), (4, S (r.drop (i + 1))), (19, .bool false)]) (by kernel_rfl) ?_
  refine ops_nil (nx_seq ?_)
  refine at_iff (by kernel_rfl) ?_
  refine at_skip (nx_seq (at_region ?_))
  refine ops_run1 (l' := [(0, (yv L)), (1, .pointer (some ⟨b, 0, none⟩)), (20, S (r.drop (i + 1)))]) (by kernel_rfl) ?_
  refine ops_store (i := 0) (v := S (r.drop (i + 1))) [S (r.drop (i + 1))] (by kernel_rfl) (by kernel_rfl) (by kernel_rfl) (by kernel_rfl) (by kernel_rfl) (by kernel_rfl) hb2 (by kernel_rfl) (by kernel_rfl) (fun w5 h13 c2 z3 => ?_)
  have z4 := c2.size
  refine ops_nil (nx_blk ?_)
  have h14 := hJ1 _ _ _ b (by simp) hj2 c2
  have h15 := hg2.keep c2 hg2.size (by intro y hy; simp only [List.mem_cons, List.not_mem_nil, or_false]; omega)
  refine nx_round ((pre ++ [r.take i]), r.drop (i + 1)) (proj_sub [0, 1] (by kernel_rfl)) ⟨trivial, h14, h13, h15, (show (pre ++ [r.take i]) ++ parts (r.drop (i + 1)) = parts s by rw [← hps, hnx]; simp), (show (r.drop (i + 1)).length ≤ s.length by simp only [List.length_drop]; omega)⟩ (show (r.drop (i + 1)).length < r.length by simp only [List.length_drop]; omega)
  cases e
  refine ops_run5 (l' := [(0, (yv L)), (1, .pointer (some ⟨b, 0, none⟩)), (4, S (r.drop (i + 1))), (19, .bool true)]) (by kernel_rfl) ?_
  refine ops_nil (nx_seq ?_)
  refine at_ift (by kernel_rfl) ?_
  refine at_ret (rs := []) (vs := []) rfl (by kernel_rfl) ?_
  exact ⟨_, rfl, .inr ⟨_, hpre, hj2⟩⟩
theorem domain_ok (s : Bytes) (hs : s.length < 4611686018427387904) (w : World) (hg : Gl w) : Pu Tryd.prog 115 #[S s] w (.bool (decide (domainP s))) := by
  have hgs := hg.size
  refine enter (n := 13) (args := [S s]) Tryd.func115 rfl rfl (Nat.le_of_ble_eq_true (by kernel_rfl)) ?_
  refine at_seq (at_region ?_)
  refine ops_alloc (z := .bool false) (cs := [.bool false]) (by kernel_rfl) (by kernel_rfl) (by kernel_rfl) (by kernel_rfl) (fun b1 w1 e1 h1 c1 z1 => ?_)
  have z2 := c1.size
  refine ops_nil (nx_seq (at_seq (at_seq (at_region ?_))))
  refine ops_run1 (l' := [(0, S s), (2, .pointer (some ⟨b1, 0, none⟩)), (4, S s)]) (by kernel_rfl) ?_
  refine ops_callr (by kernel_rfl) (by kernel_rfl) (by kernel_rfl) (between_ok s w1) ?_
  rintro _ w2 ⟨b2, rfl, e2, h2, c2, z3⟩
  have z4 := c2.size
  refine ops_nil (nx_seq (at_block ?_))
  have h3 := hg.keep0 c1 (by omega)
  have h4 := h3.keep0 c2 (by omega)
  refine at_keep [(0, S s), (2, .pointer (some ⟨b1, 0, none⟩)), (5, .func (.func 149) #[] #[.pointer (some ⟨b2, 0, none⟩)])] (by kernel_rfl) ?_
  have h5 := h1.keep0 c2 (by omega)
  refine at_range (own := [b2]) (Bd := NG) (al := parts s) (enc := S) (by kernel_rfl) (by kernel_rfl) (fun _ _ => by kernel_rfl) (between_it s hs b2 (by omega)) (fun x hx => ?_) (fun Wz cz => ⟨h4.keep0 cz (by omega), h2.keep0 cz (by omega)⟩) (by omega) (fun pre W => Chg [] w.heap.size w W ∧ Blk W b1 [.bool false] 4 ∧ (∀ p, p ∈ pre → labelP p)) (fun c pre W => c = .ret ∧ Chg [] w.heap.size w W ∧ Blk W b1 [.bool false] 4 ∧ (∃ p, p ∈ pre ∧ ¬ labelP p)) (fun Wz cz zz0 => ?_) ?_ ?_ ?_ (fun rec pre x W hrec hpre hI hL hK => ?_) (fun W hI hK => ?_) (fun c pre W hpre hX hK => ?_)
  · simp only [List.mem_cons, List.not_mem_nil, or_false] at hx; omega
  · exact ⟨((((Chg.refl [] w).step0 c1 (by omega)).step0 c2 (by omega)).step0 cz (by omega)), h5.keep0 cz (by omega), (by simp)⟩
  · rintro pre W W' x hx hI cz
    simp only [List.mem_cons, List.not_mem_nil, or_false] at hx
    have zz := hI.1.size
    exact ⟨(hI.1.step cz (by omega) (by intro y hy; simp only [List.mem_cons, List.not_mem_nil, or_false, false_or] at hy ⊢; try omega)), hI.2.1.keep1 cz (by have := hI.2.1.lt; omega) (by omega), hI.2.2⟩
  · rintro pre W W' hI cz
    have zz := hI.1.size
    exact ⟨(hI.1.step cz (by omega) (by intro y hy; simp only [List.mem_cons, List.not_mem_nil, or_false, false_or] at hy ⊢; try omega)), hI.2.1.keep0 cz (by have := hI.2.1.lt; omega), hI.2.2⟩
  · rintro c pre W W' ⟨hc, hX⟩ cz
    have zz := hX.1.size
    exact ⟨hc, ⟨(hX.1.step cz (by omega) (by intro y hy; simp only [List.mem_cons, List.not_mem_nil, or_false, false_or] at hy ⊢; try omega)), hX.2.1.keep1 cz (by have := hX.2.1.lt; omega) (by omega), hX.2.2⟩⟩
  have hxm : x ∈ parts s := hpre.subset (by simp)
  have hLl := hL.lt
  have hKl := hK.lt
  obtain ⟨h6, h7, h8⟩ := hI
  have z5 := h6.size
  have z6 := h7.lt
  have hall := h8
  have hxl := parts_mem s x hxm
  refine at_region ?_
  refine ops_run1 (l' := [(0, S s), (2, .pointer (some ⟨b1, 0, none⟩)), (3, S x), (6, S x)]) (by kernel_rfl) ?_
  refine ops_nil ?_
  refine nx_begin (rec := rec) hL hrec (fun w3 h9 c3 z7 => ?_)
  have z8 := c3.size
  refine at_block (at_seq (at_region ?_))
  refine ops_run1 (l' := [(0, S s), (2, .pointer (some ⟨b1, 0, none⟩)), (3, S x), (6, S x), (7, S x)]) (by kernel_rfl) ?_
  refine ops_callr (by kernel_rfl) (by kernel_rfl) (by kernel_rfl) (label_ok x (by omega) w3) ?_
  rintro _ w4 ⟨rfl, c4⟩
  have z9 := c4.size
  refine ops_run1 (l' := [(0, S s), (2, .pointer (some ⟨b1, 0, none⟩)), (3, S x), (6, S x), (7, S x), (8, .bool (decide (labelP x))), (9, .bool (!(decide (labelP x))))]) (by kernel_rfl) ?_
  refine ops_nil (nx_seq ?_)
  refine at_ifn (labelP x) (by kernel_rfl) (fun q1 => ?_) (fun q1 => ?_)
  refine at_seq (at_region ?_)
  have h10 := h7.keep1 c3 (by omega) (by omega)
  have h11 := h10.keep0 c4 (by omega)
  refine ops_store (i := 0) (v := .bool false) [.bool false] (by kernel_rfl) (by kernel_rfl) (by kernel_rfl) (by kernel_rfl) (by kernel_rfl) (by kernel_rfl) h11 (by kernel_rfl) (by kernel_rfl) (fun w5 h12 c5 z10 => ?_)
  have z11 := c5.size
  refine ops_nil (nx_seq ?_)
  have h13 := h9.keep0 c4 (by omega)
  have h14 := h13.keep1 c5 (by omega) (by omega)
  have h15 := hK.keep1 c3 (by omega) (by omega)
  have h16 := h15.keep0 c4 (by omega)
  have h17 := h16.keep1 c5 (by omega) (by omega)
  exact at_rret fun _ => ⟨h14, h17, rfl, (((((Chg.refl [] w).step0 h6 (by omega)).step c3 (by omega) (by intro y hy; simp only [List.mem_cons, List.not_mem_nil, or_false, false_or] at hy ⊢; try omega)).step0 c4 (by omega)).step c5 (by omega) (by intro y hy; simp only [List.mem_cons, List.not_mem_nil, or_false, false_or] at hy ⊢; try omega)), h12, (by exact ⟨x, by simp, by assumption⟩)⟩
  refine at_skip (nx_blk ?_)
  have h18 := h9.keep0 c4 (by omega)
  have h19 := hK.keep1 c3 (by omega) (by omega)
  have h20 := h19.keep0 c4 (by omega)
  have kq := (((Chg.refl [w2.heap.size + 1] W).step c3 (by omega) (by intro y hy; simp only [List.mem_cons, List.not_mem_nil, or_false, false_or] at hy ⊢; try omega)).step0 c4 (by omega))
  have h21 := h7.keep1 c3 (by omega) (by omega)
  have h22 := h21.keep0 c4 (by omega)
  exact nx_rend fun _ => ⟨h18, h20, Kp.of_chg kq (by intro y hy; simp only [List.mem_cons, List.not_mem_nil, or_false] at hy ⊢; omega) (by intro y hy; simp only [List.mem_cons, List.not_mem_nil, or_false] at hy ⊢; omega), ((((Chg.refl [] w).step0 h6 (by omega)).step c3 (by omega) (by intro y hy; simp only [List.mem_cons, List.not_mem_nil, or_false, false_or] at hy ⊢; try omega)).step0 c4 (by omega)), h22, (by exact fun p hp => (List.mem_append.1 hp).elim (hall p) (fun h => by rw [List.mem_singleton.1 h]; assumption))⟩
  obtain ⟨h23, h24, h25⟩ := hI
  have z12 := h23.size
  have z13 := h24.lt
  have hKl := hK.lt
  have hall := h25
  refine nx_blk (nx_seq (at_seq (at_region ?_)))
  refine ops_run3 (l' := [(2, .pointer (some ⟨b1, 0, none⟩)), (12, .bool (decide (((s.length : Int) : Int) ≤ (255 : Int))))]) (by kernel_rfl) ?_
  refine ops_store (i := 0) (v := .bool (decide (((s.length : Int) : Int) ≤ (255 : Int)))) [.bool (decide (((s.length : Int) : Int) ≤ (255 : Int)))] (by kernel_rfl) (by kernel_rfl) (by kernel_rfl) (by kernel_rfl) (by kernel_rfl) (by kernel_rfl) h24 (by kernel_rfl) (by kernel_rfl) (fun w6 h26 c6 z14 => ?_)
  have z15 := c6.size
  refine ops_nil (nx_seq ?_)
  have h27 := hK.keep1 c6 (by omega) (by omega)
  refine at_retVM (rs := [.cell 2 4]) h27 rfl (fun w7 c7 z16 => ?_)
  have z17 := c7.size
  have h28 := h26.keep1 c7 (by omega) (by omega)
  refine ⟨[.bool (decide (((s.length : Int) : Int) ≤ (255 : Int)))], (ResV.cell (by kernel_rfl) h28 (by kernel_rfl) ResV.nil), ?_⟩
  exact ⟨_, rfl, (congrArg Value.bool (decide_eq_decide.2 (show (((s.length : Int) : Int) ≤ (255 : Int)) ↔ (domainP s) by exact ⟨fun h => ⟨by omega, hall⟩, fun h => by have := h.1; omega⟩))), ((((Chg.refl [] w).step0 h23 (by omega)).step c6 (by omega) (by intro y hy; simp only [List.mem_cons, List.not_mem_nil, or_false, false_or] at hy ⊢; try omega)).step c7 (by omega) (by intro y hy; simp only [List.mem_cons, List.not_mem_nil, or_false, false_or] at hy ⊢; try omega))⟩
  obtain ⟨rfl, hX⟩ := hX
  obtain ⟨h29, h30, h31⟩ := hX
  have z18 := h29.size
  have z19 := h30.lt
  have hKl := hK.lt
  have hex := h31
  refine at_retVM (rs := [.cell 2 4]) hK rfl (fun w8 c8 z20 => ?_)
  have z21 := c8.size
  have h32 := h30.keep1 c8 (by omega) (by omega)
  refine ⟨[.bool false], (ResV.cell (by kernel_rfl) h32 (by kernel_rfl) ResV.nil), ?_⟩
  exact ⟨_, rfl, (congrArg Value.bool (decide_eq_false (p := domainP s) (by exact fun h => by obtain ⟨p, hp, hn⟩ := hex; exact hn (h.2 p (hpre.subset hp)))).symm), (((Chg.refl [] w).step0 h29 (by omega)).step c8 (by omega) (by intro y hy; simp only [List.mem_cons, List.not_mem_nil, or_false, false_or] at hy ⊢; try omega))⟩
theorem mailbox_ok (s : Bytes) (hs : s.length < 4611686018427387904) (w : World) (hg : Gl w) : Pu Tryd.prog 74 #[S s] w (.bool (decide (mailboxP s))) := by
  have hgs := hg.size
  refine enter (n := 40) (args := [S s]) Tryd.func74 rfl rfl (Nat.le_of_ble_eq_true (by kernel_rfl)) ?_
  refine at_seq (at_region ?_)
  refine ops_alloc (z := .bool false) (cs := [.bool false]) (by kernel_rfl) (by kernel_rfl) (by kernel_rfl) (by kernel_rfl) (fun b1 w1 e1 h1 c1 z1 => ?_)
  have z2 := c1.size
  refine ops_nil (nx_seq (at_seq (at_region ?_)))
  refine ops_run1 (l' := [(0, S s), (2, .pointer (some ⟨b1, 0, none⟩)), (6, S s)]) (by kernel_rfl) ?_
  refine ops_callr (by kernel_rfl) (by kernel_rfl) (by kernel_rfl) (strings_LastIndexByte_ok s 64 (by omega) w1) ?_
  rintro _ w2 ⟨rfl, c2⟩
  have z3 := c2.size
  have r1 := lastB_lt s 64
  refine ops_run1 (l' := [(0, S s), (2, .pointer (some ⟨b1, 0, none⟩)), (3, .int .i64 (lastB s 64))]) (by kernel_rfl) ?_
  refine ops_nil (nx_seq (at_seq (at_seq (at_region ?_))))
  refine ops_run3 (l' := [(0, S s), (2, .pointer (some ⟨b1, 0, none⟩)), (3, .int .i64 (lastB s 64)), (10, .bool (decide ((lastB s 64 : Int) < (1 : Int))))]) (by kernel_rfl) ?_
  by_cases q1 : (lastB s 64 : Int) < (1 : Int)
  rw [show (decide ((lastB s 64 : Int) < (1 : Int))) = true from decide_eq_true q1]
  refine ops_run11 (l' := [(0, S s), (2, .pointer (some ⟨b1, 0, none⟩)), (3, .int .i64 (lastB s 64)), (21, .bool true)]) (by kernel_rfl) ?_
  refine ops_nil (nx_seq ?_)
  refine at_ift (by kernel_rfl) ?_
  refine at_seq (at_region ?_)
  have h2 := h1.keep0 c2 (by omega)
  refine ops_store (i := 0) (v := .bool false) [.bool false] (by kernel_rfl) (by kernel_rfl) (by kernel_rfl) (by kernel_rfl) (by kernel_rfl) (by kernel_rfl) h2 (by kernel_rfl) (by kernel_rfl) (fun w3 h3 c3 z4 => ?_)
  have z5 := c3.size
  refine ops_nil (nx_seq ?_)
  refine at_retV (rs := [.cell 2 4]) (vs := [.bool false]) rfl (ResV.cell (by kernel_rfl) h3 (by kernel_rfl) ResV.nil) ?_
  exact ⟨_, rfl, (congrArg Value.bool (decide_eq_false (p := mailboxP s) (by rintro ⟨h1, h2, h3, h4⟩; first | omega | contradiction)).symm), ((((Chg.refl [] w).step0 c1 (by omega)).step0 c2 (by omega)).step c3 (by omega) (by intro y hy; simp only [List.mem_cons, List.not_mem_nil, or_false, false_or] at hy ⊢; try omega))⟩
  rw [show (decide ((lastB s 64 : Int) < (1 : Int))) = false from decide_eq_false q1]
  refine ops_run4 (l' := [(0, S s), (2, .pointer (some ⟨b1, 0, none⟩)), (3, .int .i64 (lastB s 64)), (14, .bool (decide ((lastB s 64 : Int) > (64 : Int))))]) (by kernel_rfl) ?_
  by_cases q2 : (lastB s 64 : Int) > (64 : Int)
  rw [show (decide ((lastB s 64 : Int) > (64 : Int))) = true from decide_eq_true q2]
  refine ops_run7 (l' := [(0, S s), (2, .pointer (some ⟨b1, 0, none⟩)), (3, .int .i64 (lastB s 64)), (21, .bool true)]) (by kernel_rfl) ?_
  refine ops_nil (nx_seq ?_)
  refine at_ift (by kernel_rfl) ?_
  refine at_seq (at_region ?_)
  have h4 := h1.keep0 c2 (by omega)
  refine ops_store (i := 0) (v := .bool false) [.bool false] (by kernel_rfl) (by kernel_rfl) (by kernel_rfl) (by kernel_rfl) (by kernel_rfl) (by kernel_rfl) h4 (by kernel_rfl) (by kernel_rfl) (fun w4 h5 c4 z6 => ?_)
  have z7 := c4.size
  refine ops_nil (nx_seq ?_)
  refine at_retV (rs := [.cell 2 4]) (vs := [.bool false]) rfl (ResV.cell (by kernel_rfl) h5 (by kernel_rfl) ResV.nil) ?_
  exact ⟨_, rfl, (congrArg Value.bool (decide_eq_false (p := mailboxP s) (by rintro ⟨h1, h2, h3, h4⟩; first | omega | contradiction)).symm), ((((Chg.refl [] w).step0 c1 (by omega)).step0 c2 (by omega)).step c4 (by omega) (by intro y hy; simp only [List.mem_cons, List.not_mem_nil, or_false, false_or] at hy ⊢; try omega))⟩
  rw [show (decide ((lastB s 64 : Int) > (64 : Int))) = false from decide_eq_false q2]
  refine ops_run2 (l' := [(0, S s), (2, .pointer (some ⟨b1, 0, none⟩)), (3, .int .i64 (lastB s 64)), (14, .bool false), (15, S s), (16, .int .i64 (lastB s 64))]) (by kernel_rfl) ?_
  refine ops_add (a := lastB s 64) (b := 1) (kd := .i64) (by kernel_rfl) (by kernel_rfl) (by kernel_rfl) (by kernel_rfl) (show (-9223372036854775808 : Int) ≤ (lastB s 64) + 1 by omega) (show (lastB s 64) + 1 ≤ (9223372036854775807 : Int) by omega) ?_
  refine ops_fromS (s := s) (i := (lastB s 64) + 1) (kd := .i64) ((lastB s 64).toNat + 1) (by kernel_rfl) (by kernel_rfl) (by kernel_rfl) (by kernel_rfl) (by kernel_rfl) (by first | omega | (simp only [List.length_append, List.length_cons, List.length_nil, List.length_take, List.length_drop, List.length_map]; omega)) (by first | omega | (simp only [List.length_append, List.length_cons, List.length_nil, List.length_take, List.length_drop, List.length_map]; omega)) ?_
  have h6 := hg.keep0 c1 (by omega)
  have h7 := h6.keep0 c2 (by omega)
  refine ops_callr (by kernel_rfl) (by kernel_rfl) (by kernel_rfl) (domain_ok (s.drop ((lastB s 64).toNat + 1)) (by first | omega | (simp only [List.length_drop]; omega)) w2 h7) ?_
  rintro _ w5 ⟨rfl, c5⟩
  have z8 := c5.size
  refine ops_run2 (l' := [(0, S s), (2, .pointer (some ⟨b1, 0, none⟩)), (3, .int .i64 (lastB s 64)), (21, .bool (!(decide (domainP (s.drop ((lastB s 64).toNat + 1))))))]) (by kernel_rfl) ?_
  refine ops_nil (nx_seq ?_)
  refine at_ifn (domainP (s.drop ((lastB s 64).toNat + 1))) (by kernel_rfl) (fun q3 => ?_) (fun q3 => ?_)
  refine at_seq (at_region ?_)
  have h8 := h1.keep0 c2 (by omega)
  have h9 := h8.keep0 c5 (by omega)
  refine ops_store (i := 0) (v := .bool false) [.bool false] (by kernel_rfl) (by kernel_rfl) (by kernel_rfl) (by kernel_rfl) (by kernel_rfl) (by kernel_rfl) h9 (by kernel_rfl) (by kernel_rfl) (fun w6 h10 c6 z9 => ?_)
  have z10 := c6.size
  refine ops_nil (nx_seq ?_)
  refine at_retV (rs := [.cell 2 4]) (vs := [.bool false]) rfl (ResV.cell (by kernel_rfl) h10 (by kernel_rfl) ResV.nil) ?_
  exact ⟨_, rfl, (congrArg Value.bool (decide_eq_false (p := mailboxP s) (by rintro ⟨h1, h2, h3, h4⟩; first | omega | contradiction)).symm), (((((Chg.refl [] w).step0 c1 (by omega)).step0 c2 (by omega)).step0 c5 (by omega)).step c6 (by omega) (by intro y hy; simp only [List.mem_cons, List.not_mem_nil, or_false, false_or] at hy ⊢; try omega))⟩
  refine at_skip (nx_seq (at_seq (at_seq (at_region ?_))))
  refine ops_run2 (l' := [(2, .pointer (some ⟨b1, 0, none⟩)), (22, S s), (23, .int .i64 (lastB s 64))]) (by kernel_rfl) ?_
  refine ops_uptoS (s := s) (i' := lastB s 64) (kd' := .i64) ((lastB s 64).toNat) (by kernel_rfl) (by kernel_rfl) (by kernel_rfl) (by kernel_rfl) (by kernel_rfl) (by first | omega | (simp only [List.length_append, List.length_cons, List.length_nil, List.length_take, List.length_drop, List.length_map]; omega)) (by first | omega | (simp only [List.length_append, List.length_cons, List.length_nil, List.length_take, List.length_drop, List.length_map]; omega)) ?_
  refine ops_callr (by kernel_rfl) (by kernel_rfl) (by kernel_rfl) (between_ok (s.take ((lastB s 64).toNat)) w5) ?_
  rintro _ w7 ⟨b2, rfl, e2, h11, c7, z11⟩
  have z12 := c7.size
  refine ops_nil (nx_seq (at_block ?_))
  have h12 := h7.keep0 c5 (by omega)
  have h13 := h12.keep0 c7 (by omega)
  refine at_keep [(2, .pointer (some ⟨b1, 0, none⟩)), (25, .func (.func 149) #[] #[.pointer (some ⟨b2, 0, none⟩)])] (by kernel_rfl) ?_
  have h14 := h1.keep0 c2 (by omega)
  have h15 := h14.keep0 c5 (by omega)
  have h16 := h15.keep0 c7 (by omega)
  refine at_range (own := [b2]) (Bd := NG) (al := parts (s.take (lastB s 64).toNat)) (enc := S) (by kernel_rfl) (by kernel_rfl) (fun _ _ => by kernel_rfl) (between_it (s.take (lastB s 64).toNat) (by first | omega | (simp only [List.length_append, List.length_cons, List.length_nil, List.length_take, List.length_drop, List.length_map]; omega)) b2 (by omega)) (fun x hx => ?_) (fun Wz cz => ⟨h13.keep0 cz (by omega), h11.keep0 cz (by omega)⟩) (by omega) (fun pre W => Chg [] w.heap.size w W ∧ Blk W b1 [.bool false] 4 ∧ (∀ p, p ∈ pre → wordP p)) (fun c pre W => c = .ret ∧ Chg [] w.heap.size w W ∧ Blk W b1 [.bool false] 4 ∧ (∃ p, p ∈ pre ∧ ¬ wordP p)) (fun Wz cz zz0 => ?_) ?_ ?_ ?_ (fun rec pre x W hrec hpre hI hL hK => ?_) (fun W hI hK => ?_) (fun c pre W hpre hX hK => ?_)
  · simp only [List.mem_cons, List.not_mem_nil, or_false] at hx; omega
  · exact ⟨((((((Chg.refl [] w).step0 c1 (by omega)).step0 c2 (by omega)).step0 c5 (by omega)).step0 c7 (by omega)).step0 cz (by omega)), h16.keep0 cz (by omega), (by simp)⟩
  · rintro pre W W' x hx hI cz
    simp only [List.mem_cons, List.not_mem_nil, or_false] at hx
    have zz := hI.1.size
    exact ⟨(hI.1.step cz (by omega) (by intro y hy; simp only [List.mem_cons, List.not_mem_nil, or_false, false_or] at hy ⊢; try omega)), hI.2.1.keep1 cz (by have := hI.2.1.lt; omega) (by omega), hI.2.2⟩
  · rintro pre W W' hI cz
    have zz := hI.1.size
    exact ⟨(hI.1.step cz (by omega) (by intro y hy; simp only [List.mem_cons, List.not_mem_nil, or_false, false_or] at hy ⊢; try omega)), hI.2.1.keep0 cz (by have := hI.2.1.lt; omega), hI.2.2⟩
  · rintro c pre W W' ⟨hc, hX⟩ cz
    have zz := hX.1.size
    exact ⟨hc, ⟨(hX.1.step cz (by omega) (by intro y hy; simp only [List.mem_cons, List.not_mem_nil, or_false, false_or] at hy ⊢; try omega)), hX.2.1.keep1 cz (by have := hX.2.1.lt; omega) (by omega), hX.2.2⟩⟩
  have hxm : x ∈ parts (s.take (lastB s 64).toNat) := hpre.subset (by simp)
  have hLl := hL.lt
  have hKl := hK.lt
  obtain ⟨h17, h18, h19⟩ := hI
  have z13 := h17.size
  have z14 := h18.lt
  have hall := h19
  have hxl := parts_mem _ x hxm
  simp only [List.length_take] at hxl
  refine at_region ?_
  refine ops_run1 (l' := [(2, .pointer (some ⟨b1, 0, none⟩)), (4, S x), (26, S x)]) (by kernel_rfl) ?_
  refine ops_nil ?_
  refine nx_begin (rec := rec) hL hrec (fun w8 h20 c8 z15 => ?_)
  have z16 := c8.size
  refine at_block (at_seq (at_seq (at_region ?_)))
  refine ops_run3 (l' := [(2, .pointer (some ⟨b1, 0, none⟩)), (4, S x), (26, S x), (27, S x), (28, .int .i64 ((x.length : Int))), (29, .int .i64 0)]) (by kernel_rfl) ?_
  refine ops_nil (nx_seq (at_block ?_))
  have h21 := h18.keep1 c8 (by omega) (by omega)
  refine at_loop (X := Nat) (fun x_ => [(2, .pointer (some ⟨b1, 0, none⟩)), (4, S x), (28, .int .i64 ((x.length : Int))), (29, .int .i64 ((x_ : Int)))]) (fun x_ W1 => Chg [] (w8.heap.size) w8 W1 ∧ Blk W1 b1 [.bool false] 4 ∧ (x_ ≤ x.length) ∧ (∀ j, j < x_ → letterP (bAt x j) ∨ markP (bAt x j))) (fun x_ => x.length - x_) 0 (proj_sub [2, 4, 28, 29] (by kernel_rfl)) ⟨(Chg.refl [] w8), h21, (show 0 ≤ x.length by first | omega | (simp only [List.length_append, List.length_cons, List.length_nil, List.length_take, List.length_drop, List.length_map]; omega)), (show ∀ j, j < 0 → letterP (bAt x j) ∨ markP (bAt x j) by intro q hq; omega)⟩ ?_
  rintro i w9 ⟨h22, h23, h24, h25⟩
  replace h22 : Chg [] (w8.heap.size) w8 w9 := h22
  replace h23 : Blk w9 b1 [.bool false] 4 := h23
  replace h24 : (i ≤ x.length) := h24
  replace h25 : (∀ j, j < i → letterP (bAt x j) ∨ markP (bAt x j)) := h25
  have z17 := h22.size
  have z18 := h23.lt
  have hall2 := h25
  refine at_seq (at_region ?_)
  refine ops_run1 (l' := [(2, .pointer (some ⟨b1, 0, none⟩)), (4, S x), (28, .int .i64 ((x.length : Int))), (29, .int .i64 ((i : Int))), (30, .bool (decide (((i : Int) : Int) < ((x.length : Int) : Int))))]) (by kernel_rfl) ?_
  refine ops_nil (nx_seq (at_seq ?_))
  refine at_ifp (((i : Int) : Int) < ((x.length : Int) : Int)) (by kernel_rfl) (fun q4 => ?_) (fun q4 => ?_)
  refine at_skip (nx_seq (at_seq (at_block (at_seq (at_region ?_)))))
  refine ops_run2 (l' := [(2, .pointer (some ⟨b1, 0, none⟩)), (4, S x), (5, .int .i64 ((i : Int))), (28, .int .i64 ((x.length : Int))), (29, .int .i64 ((i : Int))), (30, .bool (decide (((i : Int) : Int) < ((x.length : Int) : Int)))), (31, .int .i64 ((i : Int)))]) (by kernel_rfl) ?_
  refine ops_nil (nx_seq (at_seq (at_region ?_)))
  refine ops_run2 (l' := [(2, .pointer (some ⟨b1, 0, none⟩)), (4, S x), (5, .int .i64 ((i : Int))), (28, .int .i64 ((x.length : Int))), (29, .int .i64 ((i : Int))), (30, .bool (decide (((i : Int) : Int) < ((x.length : Int) : Int)))), (31, .int .i64 ((i : Int))), (32, S x), (33, .int .i64 ((i : Int)))]) (by kernel_rfl) ?_
  refine ops_at (b := x) (i := (i : Int)) (kd := .i64) i (by kernel_rfl) (by kernel_rfl) (by kernel_rfl) (by kernel_rfl) (by kernel_rfl) (by omega) (by omega) ?_
  have r2 := bAt_range x i
  refine ops_callr (by kernel_rfl) (by kernel_rfl) (by kernel_rfl) (kind_ok (x.getD i 0) w9) ?_
  rintro _ w10 ⟨rfl, c9⟩
  have z19 := c9.size
  refine ops_run1 (l' := [(2, .pointer (some ⟨b1, 0, none⟩)), (4, S x), (5, .int .i64 ((i : Int))), (28, .int .i64 ((x.length : Int))), (29, .int .i64 ((i : Int))), (30, .bool (decide (((i : Int) : Int) < ((x.length : Int) : Int)))), (31, .int .i64 ((i : Int))), (32, S x), (33, .int .i64 ((i : Int))), (34, .int .u8 (bAt x i)), (35, .int .i64 (kindI (bAt x i))), (36, .bool (decide ((kindI (bAt x i) : Int) = (0 : Int))))]) (by kernel_rfl) ?_
  refine ops_nil (nx_seq ?_)
  refine at_ifp ((kindI (bAt x i) : Int) = (0 : Int)) (by kernel_rfl) (fun q5 => ?_) (fun q5 => ?_)
  refine at_seq (at_region ?_)
  have h26 := h23.keep0 c9 (by omega)
  refine ops_store (i := 0) (v := .bool false) [.bool false] (by kernel_rfl) (by kernel_rfl) (by kernel_rfl) (by kernel_rfl) (by kernel_rfl) (by kernel_rfl) h26 (by kernel_rfl) (by kernel_rfl) (fun w11 h27 c10 z20 => ?_)
  have z21 := c10.size
  refine ops_nil (nx_seq ?_)
  have h28 := h20.keep0 h22 (by omega)
  have h29 := h28.keep0 c9 (by omega)
  have h30 := h29.keep1 c10 (by omega) (by omega)
  have h31 := hK.keep1 c8 (by omega) (by omega)
  have h32 := h31.keep0 h22 (by omega)
  have h33 := h32.keep0 c9 (by omega)
  have h34 := h33.keep1 c10 (by omega) (by omega)
  exact at_rret fun _ => ⟨h30, h34, rfl, ((((((Chg.refl [] w).step0 h17 (by omega)).step c8 (by omega) (by intro y hy; simp only [List.mem_cons, List.not_mem_nil, or_false, false_or] at hy ⊢; try omega)).step0 h22 (by omega)).step0 c9 (by omega)).step c10 (by omega) (by intro y hy; simp only [List.mem_cons, List.not_mem_nil, or_false, false_or] at hy ⊢; try omega)), h27, (by exact ⟨x, by simp, fun h => by first | (have h9 := h.2 i (by omega); exact absurd h9 ((kindI_0 _).1 (by assumption))) | exact h.1 (by assumption)⟩)⟩
  refine at_skip (nx_blk (nx_seq (at_region ?_)))
  refine ops_add (a := (i : Int)) (b := 1) (kd := .i64) (by kernel_rfl) (by kernel_rfl) (by kernel_rfl) (by kernel_rfl) (show (-9223372036854775808 : Int) ≤ ((i : Int)) + 1 by omega) (show ((i : Int)) + 1 ≤ (9223372036854775807 : Int) by omega) ?_
  refine ops_run1 (l' := [(2, .pointer (some ⟨b1, 0, none⟩)), (4, S x), (5, .int .i64 ((i : Int))), (28, .int .i64 ((x.length : Int))), (29, .int .i64 (((i : Int)) + 1)), (30, .bool (decide (((i : Int) : Int) < ((x.length : Int) : Int)))), (31, .int .i64 ((i : Int))), (32, S x), (33, .int .i64 ((i : Int))), (34, .int .u8 (bAt x i)), (35, .int .i64 (kindI (bAt x i))), (36, .bool (decide ((kindI (bAt x i) : Int) = (0 : Int)))), (37, .int .i64 (((i : Int)) + 1))]) (by kernel_rfl) ?_
  refine ops_nil ?_
  have h35 := h23.keep0 c9 (by omega)
  refine nx_round ((i) + 1) (proj_sub [2, 4, 28, 29] (by kernel_rfl)) ⟨(((Chg.refl [] w8).step0 h22 (by omega)).step0 c9 (by omega)), h35, (show ((i) + 1) ≤ x.length by first | omega | (simp only [List.length_append, List.length_cons, List.length_nil, List.length_take, List.length_drop, List.length_map]; omega)), (show ∀ j, j < ((i) + 1) → letterP (bAt x j) ∨ markP (bAt x j) by exact fun j hj => if e : j = i then (by rw [e]; exact Decidable.of_not_not (fun h => absurd ((kindI_0 _).2 h) (by assumption))) else hall2 j (by omega))⟩ (show x.length - ((i) + 1) < x.length - i by omega)
  refine at_exit (ex_seq (ex_inv (ex_here (nx_seq (at_seq (at_region ?_))))))
  refine ops_run1 (l' := [(2, .pointer (some ⟨b1, 0, none⟩)), (4, S x), (28, .int .i64 ((x.length : Int))), (29, .int .i64 ((i : Int))), (30, .bool (decide (((i : Int) : Int) < ((x.length : Int) : Int)))), (38, S x)]) (by kernel_rfl) ?_
  refine ops_eqS (a := x) (b := []) (by kernel_rfl) (by kernel_rfl) (by kernel_rfl) (by kernel_rfl) ?_
  refine ops_nil (nx_seq ?_)
  refine at_ifp ((x : Bytes) = []) (by kernel_rfl) (fun q6 => ?_) (fun q6 => ?_)
  have l1 : x.length = 0 := by rw [q6]; rfl
  refine at_seq (at_region ?_)
  refine ops_store (i := 0) (v := .bool false) [.bool false] (by kernel_rfl) (by kernel_rfl) (by kernel_rfl) (by kernel_rfl) (by kernel_rfl) (by kernel_rfl) h23 (by kernel_rfl) (by kernel_rfl) (fun w12 h36 c11 z22 => ?_)
  have z23 := c11.size
  refine ops_nil (nx_seq ?_)
  have h37 := h20.keep0 h22 (by omega)
  have h38 := h37.keep1 c11 (by omega) (by omega)
  have h39 := hK.keep1 c8 (by omega) (by omega)
  have h40 := h39.keep0 h22 (by omega)
  have h41 := h40.keep1 c11 (by omega) (by omega)
  exact at_rret fun _ => ⟨h38, h41, rfl, (((((Chg.refl [] w).step0 h17 (by omega)).step c8 (by omega) (by intro y hy; simp only [List.mem_cons, List.not_mem_nil, or_false, false_or] at hy ⊢; try omega)).step0 h22 (by omega)).step c11 (by omega) (by intro y hy; simp only [List.mem_cons, List.not_mem_nil, or_false, false_or] at hy ⊢; try omega)), h36, (by exact ⟨x, by simp, fun h => by first | (have h9 := h.2 i (by omega); exact absurd h9 ((kindI_0 _).1 (by assumption))) | exact h.1 (by assumption)⟩)⟩
  have l2 := List.length_pos_iff.2 q6
  refine at_skip (nx_blk ?_)
  have h42 := h20.keep0 h22 (by omega)
  have h43 := hK.keep1 c8 (by omega) (by omega)
  have h44 := h43.keep0 h22 (by omega)
  have kq := (((Chg.refl [w7.heap.size + 1] W).step c8 (by omega) (by intro y hy; simp only [List.mem_cons, List.not_mem_nil, or_false, false_or] at hy ⊢; try omega)).step0 h22 (by omega))
  exact nx_rend fun _ => ⟨h42, h44, Kp.of_chg kq (by intro y hy; simp only [List.mem_cons, List.not_mem_nil, or_false] at hy ⊢; omega) (by intro y hy; simp only [List.mem_cons, List.not_mem_nil, or_false] at hy ⊢; omega), ((((Chg.refl [] w).step0 h17 (by omega)).step c8 (by omega) (by intro y hy; simp only [List.mem_cons, List.not_mem_nil, or_false, false_or] at hy ⊢; try omega)).step0 h22 (by omega)), h23, (by exact fun p hp => (List.mem_append.1 hp).elim (hall p) (fun h => by rw [List.mem_singleton.1 h]; exact ⟨by assumption, fun j hj => hall2 j (by omega)⟩))⟩
  obtain ⟨h45, h46, h47⟩ := hI
  have z24 := h45.size
  have z25 := h46.lt
  have hKl := hK.lt
  have hall := h47
  refine nx_blk (nx_seq (at_seq (at_region ?_)))
  refine ops_store (i := 0) (v := .bool true) [.bool true] (by kernel_rfl) (by kernel_rfl) (by kernel_rfl) (by kernel_rfl) (by kernel_rfl) (by kernel_rfl) h46 (by kernel_rfl) (by kernel_rfl) (fun w13 h48 c12 z26 => ?_)
  have z27 := c12.size
  refine ops_nil (nx_seq ?_)
  have h49 := hK.keep1 c12 (by omega) (by omega)
  refine at_retVM (rs := [.cell 2 4]) h49 rfl (fun w14 c13 z28 => ?_)
  have z29 := c13.size
  have h50 := h48.keep1 c13 (by omega) (by omega)
  refine ⟨[.bool true], (ResV.cell (by kernel_rfl) h50 (by kernel_rfl) ResV.nil), ?_⟩
  exact ⟨_, rfl, (congrArg Value.bool (decide_eq_true (p := mailboxP s) (by exact ⟨by omega, by omega, by assumption, hall⟩)).symm), ((((Chg.refl [] w).step0 h45 (by omega)).step c12 (by omega) (by intro y hy; simp only [List.mem_cons, List.not_mem_nil, or_false, false_or] at hy ⊢; try omega)).step c13 (by omega) (by intro y hy; simp only [List.mem_cons, List.not_mem_nil, or_false, false_or] at hy ⊢; try omega))⟩
  obtain ⟨rfl, hX⟩ := hX
  obtain ⟨h51, h52, h53⟩ := hX
  have z30 := h51.size
  have z31 := h52.lt
  have hKl := hK.lt
  have hex := h53
  refine at_retVM (rs := [.cell 2 4]) hK rfl (fun w15 c14 z32 => ?_)
  have z33 := c14.size
  have h54 := h52.keep1 c14 (by omega) (by omega)
  refine ⟨[.bool false], (ResV.cell (by kernel_rfl) h54 (by kernel_rfl) ResV.nil), ?_⟩
  exact ⟨_, rfl, (congrArg Value.bool (decide_eq_false (p := mailboxP s) (by exact fun h => by obtain ⟨p, hp, hn⟩ := hex; exact hn (h.2.2.2 p (hpre.subset hp)))).symm), (((Chg.refl [] w).step0 h51 (by omega)).step c14 (by omega) (by intro y hy; simp only [List.mem_cons, List.not_mem_nil, or_false, false_or] at hy ⊢; try omega))⟩

end Go.Proofs.YtnjkdnbabogcjaaDoor
