/- A walk, printed by a program of my own (wip/gen/walk.py) from a script of mine. -/
import Derived.Test.YtnjkdnbabogcjaaDoorProg
import Derived.Test.YtnjkdnbabogcjaaDoorL0
import Derived.Test.YtnjkdnbabogcjaaDoorP15
set_option maxHeartbeats 4000000
set_option linter.unusedVariables false
set_option linter.unusedSimpArgs false
set_option maxRecDepth 100000
namespace Go.Proofs.YtnjkdnbabogcjaaDoor
open Go Go.RowKit Go.Kw

theorem trim_len (x p : Bytes) : (Lib.trimPrefix x p).length ≤ x.length := by
  unfold Lib.trimPrefix
  split
  · simp
  · exact Nat.le_refl _
theorem len4 {l : List Bytes} (h : l.length = 4) : ∃ a b c d, l = [a, b, c, d] := by
  match l, h with
  | [a, b, c, d], _ => exact ⟨a, b, c, d, rfl⟩
theorem line_ok {w : World} {b3 : Nat} {rest : Bytes} (hb : Blk w b3 [S rest] 9) (hs : rest.length < 4294967281) (hg : Gl w) (hN : NG ≤ b3) :
    Rp Tryd.prog 48 [.pointer (some ⟨b3, 0, none⟩)].toArray w (fun v w2 => ∃ x r', Lib.cut rest crlf = (x, r', true) ∧ v = S x ∧ Blk w2 b3 [S r'] 9 ∧ Chg [b3] w.heap.size w w2) (fun ch w2 => ch = thrownE 130 110 ∧ (∃ x r', Lib.cut rest crlf = (x, r', false)) ∧ Chg [b3] w.heap.size w w2) := by
  have hbl := hb.lt
  have hgs := hg.size
  refine enter (n := 15) (args := [.pointer (some ⟨b3, 0, none⟩)]) Tryd.func48 rfl rfl (Nat.le_of_ble_eq_true (by kernel_rfl)) ?_
  refine at_seq (at_region ?_)
  refine ops_run1 (l' := [(0, .pointer (some ⟨b3, 0, none⟩)), (1, S [])]) (by kernel_rfl) ?_
  refine ops_nil (nx_seq (at_seq (at_region ?_)))
  refine ops_loadB (i := 0) (v := S rest) (by kernel_rfl) (by kernel_rfl) (by kernel_rfl) (by kernel_rfl) hb (by kernel_rfl) ?_
  obtain ⟨x, r0, ok, hc⟩ : ∃ x r ok, Lib.cut rest crlf = (x, r, ok) := ⟨_, _, _, rfl⟩
  refine ops_callr (by kernel_rfl) (by kernel_rfl) (by kernel_rfl) (strings_Cut_ok rest [13, 10] hs w hg) ?_
  rintro _ w1 ⟨hv, c1⟩
  rw [hc] at hv
  subst hv
  have z1 := c1.size
  refine ops_run7 (l' := [(0, .pointer (some ⟨b3, 0, none⟩)), (1, S []), (2, S x), (3, S r0), (4, .bool ok)]) (by kernel_rfl) ?_
  refine ops_nil (nx_seq (at_seq (at_region ?_)))
  refine ops_run1 (l' := [(0, .pointer (some ⟨b3, 0, none⟩)), (1, S []), (2, S x), (3, S r0), (11, .bool ok)]) (by kernel_rfl) ?_
  refine ops_callp (by kernel_rfl) (by kernel_rfl) (by kernel_rfl) (mime_must (ok) (110) w1) ?_ ?_
  rintro _ w2 ⟨q1, rfl, hwq⟩
  rw [hwq]
  clear hwq w2
  refine ops_nil (nx_seq (at_seq (at_region ?_)))
  refine ops_run1 (l' := [(0, .pointer (some ⟨b3, 0, none⟩)), (1, S []), (2, S x), (13, S r0)]) (by kernel_rfl) ?_
  have h1 := hb.keep0 c1 (by omega)
  refine ops_store (i := 0) (v := S r0) [S r0] (by kernel_rfl) (by kernel_rfl) (by kernel_rfl) (by kernel_rfl) (by kernel_rfl) (by kernel_rfl) h1 (by kernel_rfl) (by kernel_rfl) (fun w3 h2 c2 z2 => ?_)
  have z3 := c2.size
  refine ops_nil (nx_seq (at_seq (at_region ?_)))
  refine ops_run2 (l' := [(1, S x)]) (by kernel_rfl) ?_
  refine ops_nil (nx_seq ?_)
  refine at_ret (rs := [.tmp 1]) (vs := [S x]) rfl (by kernel_rfl) ?_
  exact .inl ⟨_, rfl, _, _, by rw [hc, q1], rfl, h2, (((Chg.refl [b3] w).step0 c1 (by omega)).step c2 (by omega) (by intro y hy; simp only [List.mem_cons, List.not_mem_nil, or_false, false_or] at hy ⊢; try omega))⟩
  rintro ch w2 a ha ⟨q1, hch, hwq⟩
  rw [hwq]
  exact out_panic ha (.inr ⟨_, rfl, hch, ⟨_, _, by rw [hc, q1]⟩, ((Chg.refl [b3] w).step0 c1 (by omega))⟩)
theorem field_ok (name : Bytes) {w : World} {b4 b3 : Nat} (h4 : Blk w b4 [.func (.func 48) #[] #[.pointer (some ⟨b3, 0, none⟩)]] 73) {rest : Bytes} (hb : Blk w b3 [S rest] 9) (hs : rest.length < 4294967281) (hg : Gl w) (hN : NG ≤ b3) :
    Rp Tryd.prog 51 [S name, .pointer (some ⟨b4, 0, none⟩)].toArray w (fun v w2 => ∃ x r', Lib.cut rest crlf = (x, r', true) ∧ v = .tuple #[S (Lib.trimPrefix x name), .bool (Lib.hasPrefix x name)] ∧ Blk w2 b3 [S r'] 9 ∧ Chg [b3] w.heap.size w w2) (fun ch w2 => ch = thrownE 130 110 ∧ (∃ x r', Lib.cut rest crlf = (x, r', false)) ∧ Chg [b3] w.heap.size w w2) := by
  have hbl := hb.lt
  have hgs := hg.size
  have h4l := h4.lt
  refine enter (n := 11) (args := [S name, .pointer (some ⟨b4, 0, none⟩)]) Tryd.func51 rfl rfl (Nat.le_of_ble_eq_true (by kernel_rfl)) ?_
  refine at_seq (at_region ?_)
  refine ops_run2 (l' := [(0, S name), (1, .pointer (some ⟨b4, 0, none⟩)), (3, S []), (4, .bool false)]) (by kernel_rfl) ?_
  refine ops_nil (nx_seq (at_seq (at_region ?_)))
  refine ops_loadB (i := 0) (v := .func (.func 48) #[] #[.pointer (some ⟨b3, 0, none⟩)]) (by kernel_rfl) (by kernel_rfl) (by kernel_rfl) (by kernel_rfl) h4 (by kernel_rfl) ?_
  refine ops_callp (by kernel_rfl) (by kernel_rfl) (by kernel_rfl) (line_ok hb hs hg hN) ?_ ?_
  rintro _ w1 ⟨x, r', hc, rfl, h1, c1⟩
  have z1 := c1.size
  refine ops_run1 (l' := [(3, S []), (4, .bool false), (6, S x), (7, S name)]) (by kernel_rfl) ?_
  refine ops_callr (by kernel_rfl) (by kernel_rfl) (by kernel_rfl) (strings_CutPrefix_ok x name w1) ?_
  rintro _ w2 ⟨rfl, c2⟩
  have z2 := c2.size
  refine ops_run4 (l' := [(3, S (Lib.trimPrefix x name)), (4, .bool (Lib.hasPrefix x name))]) (by kernel_rfl) ?_
  refine ops_nil (nx_seq ?_)
  refine at_ret (rs := [.tmp 3, .tmp 4]) (vs := [S (Lib.trimPrefix x name), .bool (Lib.hasPrefix x name)]) rfl (by kernel_rfl) ?_
  have h2 := h1.keep0 c2 (by omega)
  exact .inl ⟨_, rfl, _, _, hc, rfl, h2, (((Chg.refl [b3] w).step c1 (by omega) (by intro y hy; simp only [List.mem_cons, List.not_mem_nil, or_false, false_or] at hy ⊢; try omega)).step0 c2 (by omega))⟩
  rintro ch w1 a ha ⟨hch, hc, c1⟩
  have z3 := c1.size
  exact out_panic ha (.inr ⟨_, rfl, hch, hc, ((Chg.refl [b3] w).step c1 (by omega) (by intro y hy; simp only [List.mem_cons, List.not_mem_nil, or_false, false_or] at hy ⊢; try omega))⟩)
theorem read1_ok {w : World} {ba be bb : Nat} {rv : Value} (hba : Blk w ba [rv] 22) (hbe : Blk w be [S [], .slice none 0 0, .int .i64 0] 26) (hbb : Blk w bb [.slice none 0 0] 22) {lo hi : Nat} {r : Bytes} (hr : Bs w lo hi rv r) (hs : r.length ≤ 1000000) (hha : hi ≤ ba) (hhe : hi ≤ be) (hhb : hi ≤ bb) (hn1 : ba ≠ be) (hn2 : ba ≠ bb) (hn3 : be ≠ bb) (hg : Gl w) (hNe : NG ≤ be) (hNb : NG ≤ bb) :
    Rp Tryd.prog 47 [.pointer (some ⟨ba, 0, none⟩), .pointer (some ⟨be, 0, none⟩), .pointer (some ⟨bb, 0, none⟩)].toArray w (fun _ w2 => (∃ (fr : Bytes) (to : List Bytes) (at_ : Int) (b : Bytes) (k : Nat) (tv bv : Value), Wit r fr to at_ b k ∧ Blk w2 be [S fr, tv, .int .i64 at_] 26 ∧ Blk w2 bb [bv] 22 ∧ Ss w2 w.heap.size w2.heap.size tv to ∧ Bs w2 w.heap.size w2.heap.size bv b) ∧ Chg [be, bb] w.heap.size w w2)
      (fun ch w2 => ch = thrownE 130 110 ∧ (NoRep r ∧ ∃ c0 c1 c2 c3, Blk w2 be [c0, c1, c2] 26 ∧ Blk w2 bb [c3] 22) ∧ Chg [be, bb] w.heap.size w w2) := by
  have hhi := hr.hi_le
  have hla := hba.lt
  have hle := hbe.lt
  have hlb := hbb.lt
  have hgs := hg.size
  have hl0 : Lns r [] r := .nil
  refine enter (n := 118) (args := [.pointer (some ⟨ba, 0, none⟩), .pointer (some ⟨be, 0, none⟩), .pointer (some ⟨bb, 0, none⟩)]) Tryd.func47 rfl rfl (Nat.le_of_ble_eq_true (by kernel_rfl)) ?_
  refine at_seq (at_region ?_)
  refine ops_loadB (i := 0) (v := rv) (by kernel_rfl) (by kernel_rfl) (by kernel_rfl) (by kernel_rfl) hba (by kernel_rfl) ?_
  refine ops_toS (b := r) (by kernel_rfl) (by kernel_rfl) (by kernel_rfl) (by kernel_rfl) (by kernel_rfl) hr ?_
  refine ops_alloc (z := S []) (cs := [S []]) (by kernel_rfl) (by kernel_rfl) (by kernel_rfl) (by kernel_rfl) (fun b1 w1 e1 h1 c1 z1 => ?_)
  have z2 := c1.size
  refine ops_store (i := 0) (v := S r) [S r] (by kernel_rfl) (by kernel_rfl) (by kernel_rfl) (by kernel_rfl) (by kernel_rfl) (by kernel_rfl) h1 (by kernel_rfl) (by kernel_rfl) (fun w2 h2 c2 z3 => ?_)
  have z4 := c2.size
  refine ops_nil (nx_seq (at_seq (at_region ?_)))
  refine ops_run1 (l' := [(0, .pointer (some ⟨ba, 0, none⟩)), (1, .pointer (some ⟨be, 0, none⟩)), (2, .pointer (some ⟨bb, 0, none⟩)), (19, .func (.func 48) #[] #[.pointer (some ⟨b1, 0, none⟩)])]) (by kernel_rfl) ?_
  refine ops_alloc (z := .nilFunc) (cs := [.nilFunc]) (by kernel_rfl) (by kernel_rfl) (by kernel_rfl) (by kernel_rfl) (fun b2 w3 e2 h3 c3 z5 => ?_)
  have z6 := c3.size
  refine ops_store (i := 0) (v := .func (.func 48) #[] #[.pointer (some ⟨b1, 0, none⟩)]) [.func (.func 48) #[] #[.pointer (some ⟨b1, 0, none⟩)]] (by kernel_rfl) (by kernel_rfl) (by kernel_rfl) (by kernel_rfl) (by kernel_rfl) (by kernel_rfl) h3 (by kernel_rfl) (by kernel_rfl) (fun w4 h4 c4 z7 => ?_)
  have z8 := c4.size
  refine ops_nil (nx_seq (at_seq (at_region ?_)))
  refine ops_run2 (l' := [(0, .pointer (some ⟨ba, 0, none⟩)), (1, .pointer (some ⟨be, 0, none⟩)), (2, .pointer (some ⟨bb, 0, none⟩)), (4, .pointer (some ⟨b2, 0, none⟩)), (5, .func (.func 51) #[] #[.pointer (some ⟨b2, 0, none⟩)])]) (by kernel_rfl) ?_
  refine ops_nil (nx_seq (at_seq (at_region ?_)))
  refine ops_run1 (l' := [(0, .pointer (some ⟨ba, 0, none⟩)), (1, .pointer (some ⟨be, 0, none⟩)), (2, .pointer (some ⟨bb, 0, none⟩)), (4, .pointer (some ⟨b2, 0, none⟩)), (5, .func (.func 51) #[] #[.pointer (some ⟨b2, 0, none⟩)]), (21, .func (.func 51) #[] #[.pointer (some ⟨b2, 0, none⟩)])]) (by kernel_rfl) ?_
  have h5 := h2.keep0 c3 (by omega)
  have h6 := h5.keep1 c4 (by omega) (by omega)
  have h7 := hg.keep0 c1 (by omega)
  have h8 := h7.keep c2 (by omega) (by intro y hy; simp only [List.mem_cons, List.not_mem_nil, or_false]; omega)
  have h9 := h8.keep0 c3 (by omega)
  have h10 := h9.keep c4 (by omega) (by intro y hy; simp only [List.mem_cons, List.not_mem_nil, or_false]; omega)
  refine ops_callp (by kernel_rfl) (by kernel_rfl) (by kernel_rfl) (field_ok [] h4 h6 (by omega) h10 (by omega)) ?_ ?_
  rintro _ w5 ⟨x1, r1, hc1, rfl, h11, c5⟩
  have z9 := c5.size
  have cl1 := (cut_true hc1).2
  obtain ⟨tr1, htr1⟩ : ∃ t, t = Lib.trimPrefix x1 [] := ⟨_, rfl⟩
  rw [← htr1]
  have cl2 : tr1.length ≤ x1.length := htr1 ▸ trim_len x1 []
  have hl1 : Lns r [x1] r1 := Lns.snoc hl0 hc1
  refine ops_nil (nx_seq (at_seq (at_region ?_)))
  refine ops_run1 (l' := [(0, .pointer (some ⟨ba, 0, none⟩)), (1, .pointer (some ⟨be, 0, none⟩)), (2, .pointer (some ⟨bb, 0, none⟩)), (4, .pointer (some ⟨b2, 0, none⟩)), (5, .func (.func 51) #[] #[.pointer (some ⟨b2, 0, none⟩)]), (24, .func (.func 51) #[] #[.pointer (some ⟨b2, 0, none⟩)])]) (by kernel_rfl) ?_
  have h12 := h4.keep1 c5 (by omega) (by omega)
  have h13 := h10.keep c5 (by omega) (by intro y hy; simp only [List.mem_cons, List.not_mem_nil, or_false]; omega)
  refine ops_callp (by kernel_rfl) (by kernel_rfl) (by kernel_rfl) (field_ok [67, 111, 110, 116, 101, 110, 116, 45, 84, 121, 112, 101, 58, 32, 109, 117, 108, 116, 105, 112, 97, 114, 116, 47, 109, 105, 120, 101, 100, 59, 32, 98, 111, 117, 110, 100, 97, 114, 121, 61] h12 h11 (by omega) h13 (by omega)) ?_ ?_
  rintro _ w6 ⟨x2, r2, hc2, rfl, h14, c6⟩
  have z10 := c6.size
  have cl3 := (cut_true hc2).2
  obtain ⟨tr2, htr2⟩ : ∃ t, t = Lib.trimPrefix x2 [67, 111, 110, 116, 101, 110, 116, 45, 84, 121, 112, 101, 58, 32, 109, 117, 108, 116, 105, 112, 97, 114, 116, 47, 109, 105, 120, 101, 100, 59, 32, 98, 111, 117, 110, 100, 97, 114, 121, 61] := ⟨_, rfl⟩
  rw [← htr2]
  have cl4 : tr2.length ≤ x2.length := htr2 ▸ trim_len x2 [67, 111, 110, 116, 101, 110, 116, 45, 84, 121, 112, 101, 58, 32, 109, 117, 108, 116, 105, 112, 97, 114, 116, 47, 109, 105, 120, 101, 100, 59, 32, 98, 111, 117, 110, 100, 97, 114, 121, 61]
  have hl2 : Lns r [x1, x2] r2 := Lns.snoc hl1 hc2
  refine ops_run5 (l' := [(0, .pointer (some ⟨ba, 0, none⟩)), (1, .pointer (some ⟨be, 0, none⟩)), (2, .pointer (some ⟨bb, 0, none⟩)), (4, .pointer (some ⟨b2, 0, none⟩)), (5, .func (.func 51) #[] #[.pointer (some ⟨b2, 0, none⟩)]), (6, S tr2), (7, .bool (Lib.hasPrefix x2 [67, 111, 110, 116, 101, 110, 116, 45, 84, 121, 112, 101, 58, 32, 109, 117, 108, 116, 105, 112, 97, 114, 116, 47, 109, 105, 120, 101, 100, 59, 32, 98, 111, 117, 110, 100, 97, 114, 121, 61]))]) (by kernel_rfl) ?_
  refine ops_nil (nx_seq (at_seq (at_region ?_)))
  refine ops_run1 (l' := [(0, .pointer (some ⟨ba, 0, none⟩)), (1, .pointer (some ⟨be, 0, none⟩)), (2, .pointer (some ⟨bb, 0, none⟩)), (4, .pointer (some ⟨b2, 0, none⟩)), (5, .func (.func 51) #[] #[.pointer (some ⟨b2, 0, none⟩)]), (6, S tr2), (7, .bool (Lib.hasPrefix x2 [67, 111, 110, 116, 101, 110, 116, 45, 84, 121, 112, 101, 58, 32, 109, 117, 108, 116, 105, 112, 97, 114, 116, 47, 109, 105, 120, 101, 100, 59, 32, 98, 111, 117, 110, 100, 97, 114, 121, 61])), (28, .bool (Lib.hasPrefix x2 [67, 111, 110, 116, 101, 110, 116, 45, 84, 121, 112, 101, 58, 32, 109, 117, 108, 116, 105, 112, 97, 114, 116, 47, 109, 105, 120, 101, 100, 59, 32, 98, 111, 117, 110, 100, 97, 114, 121, 61]))]) (by kernel_rfl) ?_
  refine ops_callp (by kernel_rfl) (by kernel_rfl) (by kernel_rfl) (mime_must (Lib.hasPrefix x2 [67, 111, 110, 116, 101, 110, 116, 45, 84, 121, 112, 101, 58, 32, 109, 117, 108, 116, 105, 112, 97, 114, 116, 47, 109, 105, 120, 101, 100, 59, 32, 98, 111, 117, 110, 100, 97, 114, 121, 61]) (110) w6) ?_ ?_
  rintro _ w7 ⟨q1, rfl, hwq⟩
  rw [hwq]
  clear hwq w7
  refine ops_nil (nx_seq (at_seq (at_seq (at_region ?_))))
  refine ops_run1 (l' := [(0, .pointer (some ⟨ba, 0, none⟩)), (1, .pointer (some ⟨be, 0, none⟩)), (2, .pointer (some ⟨bb, 0, none⟩)), (4, .pointer (some ⟨b2, 0, none⟩)), (5, .func (.func 51) #[] #[.pointer (some ⟨b2, 0, none⟩)]), (6, S tr2), (7, .bool (Lib.hasPrefix x2 [67, 111, 110, 116, 101, 110, 116, 45, 84, 121, 112, 101, 58, 32, 109, 117, 108, 116, 105, 112, 97, 114, 116, 47, 109, 105, 120, 101, 100, 59, 32, 98, 111, 117, 110, 100, 97, 114, 121, 61])), (30, .int .i64 0)]) (by kernel_rfl) ?_
  refine ops_nil (nx_seq (at_block ?_))
  refine at_loop (X := (List Bytes) × Bytes × Nat) (fun x_ => [(0, .pointer (some ⟨ba, 0, none⟩)), (1, .pointer (some ⟨be, 0, none⟩)), (2, .pointer (some ⟨bb, 0, none⟩)), (4, .pointer (some ⟨b2, 0, none⟩)), (5, .func (.func 51) #[] #[.pointer (some ⟨b2, 0, none⟩)]), (6, S tr2), (7, .bool (Lib.hasPrefix x2 [67, 111, 110, 116, 101, 110, 116, 45, 84, 121, 112, 101, 58, 32, 109, 117, 108, 116, 105, 112, 97, 114, 116, 47, 109, 105, 120, 101, 100, 59, 32, 98, 111, 117, 110, 100, 97, 114, 121, 61])), (30, .int .i64 ((x_.2.2 : Int)))]) (fun x_ W1 => Chg [b1] (w6.heap.size) w6 W1 ∧ Blk W1 b1 [S x_.2.1] 9 ∧ (x_.2.2 ≤ 4) ∧ (x_.1.length = x_.2.2) ∧ (Lns r ([x1, x2] ++ x_.1) x_.2.1)) (fun x_ => 4 - x_.2.2) ([], r2, 0) (proj_sub [0, 1, 2, 4, 5, 6, 7, 30] (by kernel_rfl)) ⟨(Chg.refl [b1] w6), h14, (show 0 ≤ 4 by first | omega | (simp only [List.length_append, List.length_cons, List.length_nil, List.length_take, List.length_drop, List.length_map]; omega)), (show [].length = 0 by rfl), (show Lns r ([x1, x2] ++ []) r2 by exact hl2)⟩ ?_
  rintro ⟨ys, rs, i⟩ w8 ⟨h15, h16, h17, h18, h19⟩
  replace h15 : Chg [b1] (w6.heap.size) w6 w8 := h15
  replace h16 : Blk w8 b1 [S rs] 9 := h16
  replace h17 : (i ≤ 4) := h17
  replace h18 : (ys.length = i) := h18
  replace h19 : (Lns r ([x1, x2] ++ ys) rs) := h19
  have z11 := h15.size
  have z12 := h16.lt
  have hysl := h18
  have hrl := h19.le
  have hb3n : b1 < w8.heap.size := by omega
  refine at_seq (at_region ?_)
  refine ops_run1 (l' := [(0, .pointer (some ⟨ba, 0, none⟩)), (1, .pointer (some ⟨be, 0, none⟩)), (2, .pointer (some ⟨bb, 0, none⟩)), (4, .pointer (some ⟨b2, 0, none⟩)), (5, .func (.func 51) #[] #[.pointer (some ⟨b2, 0, none⟩)]), (6, S tr2), (7, .bool (Lib.hasPrefix x2 [67, 111, 110, 116, 101, 110, 116, 45, 84, 121, 112, 101, 58, 32, 109, 117, 108, 116, 105, 112, 97, 114, 116, 47, 109, 105, 120, 101, 100, 59, 32, 98, 111, 117, 110, 100, 97, 114, 121, 61])), (30, .int .i64 ((i : Int))), (31, .bool (decide (((i : Int) : Int) < (4 : Int))))]) (by kernel_rfl) ?_
  refine ops_nil (nx_seq (at_seq ?_))
  refine at_ifp (((i : Int) : Int) < (4 : Int)) (by kernel_rfl) (fun q2 => ?_) (fun q2 => ?_)
  refine at_skip (nx_seq (at_seq (at_block (at_region ?_))))
  have h20 := h12.keep1 c6 (by omega) (by omega)
  have h21 := h20.keep1 h15 (by omega) (by omega)
  refine ops_loadB (i := 0) (v := .func (.func 48) #[] #[.pointer (some ⟨b1, 0, none⟩)]) (by kernel_rfl) (by kernel_rfl) (by kernel_rfl) (by kernel_rfl) h21 (by kernel_rfl) ?_
  have h22 := h13.keep c6 (by omega) (by intro y hy; simp only [List.mem_cons, List.not_mem_nil, or_false]; omega)
  have h23 := h22.keep h15 (by omega) (by intro y hy; simp only [List.mem_cons, List.not_mem_nil, or_false]; omega)
  refine ops_callp (by kernel_rfl) (by kernel_rfl) (by kernel_rfl) (line_ok h16 (by omega) h23 (by omega)) ?_ ?_
  rintro _ w9 ⟨x3, r3, hc3, rfl, h24, c7⟩
  have z13 := c7.size
  have cl5 := (cut_true hc3).2
  have hl3 : Lns r (([x1, x2] ++ ys) ++ [x3]) r3 := Lns.snoc h19 hc3
  refine ops_nil (nx_blk (nx_seq (at_region ?_)))
  refine ops_add (a := (i : Int)) (b := 1) (kd := .i64) (by kernel_rfl) (by kernel_rfl) (by kernel_rfl) (by kernel_rfl) (show (-9223372036854775808 : Int) ≤ ((i : Int)) + 1 by omega) (show ((i : Int)) + 1 ≤ (9223372036854775807 : Int) by omega) ?_
  refine ops_run1 (l' := [(0, .pointer (some ⟨ba, 0, none⟩)), (1, .pointer (some ⟨be, 0, none⟩)), (2, .pointer (some ⟨bb, 0, none⟩)), (4, .pointer (some ⟨b2, 0, none⟩)), (5, .func (.func 51) #[] #[.pointer (some ⟨b2, 0, none⟩)]), (6, S tr2), (7, .bool (Lib.hasPrefix x2 [67, 111, 110, 116, 101, 110, 116, 45, 84, 121, 112, 101, 58, 32, 109, 117, 108, 116, 105, 112, 97, 114, 116, 47, 109, 105, 120, 101, 100, 59, 32, 98, 111, 117, 110, 100, 97, 114, 121, 61])), (30, .int .i64 (((i : Int)) + 1))]) (by kernel_rfl) ?_
  refine ops_nil ?_
  refine nx_round (ys ++ [x3], r3, (i) + 1) (proj_sub [0, 1, 2, 4, 5, 6, 7, 30] (by kernel_rfl)) ⟨(((Chg.refl [b1] w6).step h15 (by omega) (by intro y hy; simp only [List.mem_cons, List.not_mem_nil, or_false, false_or] at hy ⊢; try omega)).step c7 (by omega) (by intro y hy; simp only [List.mem_cons, List.not_mem_nil, or_false, false_or] at hy ⊢; try omega)), h24, (show ((i) + 1) ≤ 4 by first | omega | (simp only [List.length_append, List.length_cons, List.length_nil, List.length_take, List.length_drop, List.length_map]; omega)), (show (ys ++ [x3]).length = ((i) + 1) by rw [List.length_append, List.length_singleton]; omega), (show Lns r ([x1, x2] ++ (ys ++ [x3])) r3 by rw [← List.append_assoc]; exact hl3)⟩ (show 4 - ((i) + 1) < 4 - i by omega)
  rintro ch w9 a ha ⟨hch, ⟨x3, r3, hc3⟩, c7⟩
  have z14 := c7.size
  have h25 := hbe.keep0 c1 (by omega)
  have h26 := h25.keep1 c2 (by omega) (by omega)
  have h27 := h26.keep0 c3 (by omega)
  have h28 := h27.keep1 c4 (by omega) (by omega)
  have h29 := h28.keep1 c5 (by omega) (by omega)
  have h30 := h29.keep1 c6 (by omega) (by omega)
  have h31 := h30.keep1 h15 (by omega) (by omega)
  have h32 := h31.keep1 c7 (by omega) (by omega)
  have h33 := hbb.keep0 c1 (by omega)
  have h34 := h33.keep1 c2 (by omega) (by omega)
  have h35 := h34.keep0 c3 (by omega)
  have h36 := h35.keep1 c4 (by omega) (by omega)
  have h37 := h36.keep1 c5 (by omega) (by omega)
  have h38 := h37.keep1 c6 (by omega) (by omega)
  have h39 := h38.keep1 h15 (by omega) (by omega)
  have h40 := h39.keep1 c7 (by omega) (by omega)
  exact out_panic ha (.inr ⟨_, rfl, hch, ⟨lns_none h19 hc3 (fun fr to at_ b k hw => (by simp only [List.length_append, List.length_cons, List.length_nil, List.length_map]; omega)), _, _, _, _, h32, h40⟩, (((((((((Chg.refl [be, bb] w).step0 c1 (by omega)).step c2 (by omega) (by intro y hy; simp only [List.mem_cons, List.not_mem_nil, or_false, false_or] at hy ⊢; try omega)).step0 c3 (by omega)).step c4 (by omega) (by intro y hy; simp only [List.mem_cons, List.not_mem_nil, or_false, false_or] at hy ⊢; try omega)).step c5 (by omega) (by intro y hy; simp only [List.mem_cons, List.not_mem_nil, or_false, false_or] at hy ⊢; try omega)).step c6 (by omega) (by intro y hy; simp only [List.mem_cons, List.not_mem_nil, or_false, false_or] at hy ⊢; try omega)).step h15 (by omega) (by intro y hy; simp only [List.mem_cons, List.not_mem_nil, or_false, false_or] at hy ⊢; try omega)).step c7 (by omega) (by intro y hy; simp only [List.mem_cons, List.not_mem_nil, or_false, false_or] at hy ⊢; try omega))⟩)
  obtain ⟨y2, y3, y4, y5, rfl⟩ := len4 (l := ys) (by omega)
  have hl4 : Lns r [x1, x2, y2, y3, y4, y5] rs := h19
  refine at_exit (ex_seq (ex_inv (ex_here (nx_seq (at_seq (at_region ?_))))))
  refine ops_run1 (l' := [(0, .pointer (some ⟨ba, 0, none⟩)), (1, .pointer (some ⟨be, 0, none⟩)), (2, .pointer (some ⟨bb, 0, none⟩)), (5, .func (.func 51) #[] #[.pointer (some ⟨b2, 0, none⟩)]), (6, S tr2), (7, .bool (Lib.hasPrefix x2 [67, 111, 110, 116, 101, 110, 116, 45, 84, 121, 112, 101, 58, 32, 109, 117, 108, 116, 105, 112, 97, 114, 116, 47, 109, 105, 120, 101, 100, 59, 32, 98, 111, 117, 110, 100, 97, 114, 121, 61])), (36, .func (.func 51) #[] #[.pointer (some ⟨b2, 0, none⟩)])]) (by kernel_rfl) ?_
  have h41 := h12.keep1 c6 (by omega) (by omega)
  have h42 := h41.keep1 h15 (by omega) (by omega)
  have h43 := h13.keep c6 (by omega) (by intro y hy; simp only [List.mem_cons, List.not_mem_nil, or_false]; omega)
  have h44 := h43.keep h15 (by omega) (by intro y hy; simp only [List.mem_cons, List.not_mem_nil, or_false]; omega)
  refine ops_callp (by kernel_rfl) (by kernel_rfl) (by kernel_rfl) (field_ok [83, 101, 110, 100, 101, 114, 58, 32] h42 h16 (by omega) h44 (by omega)) ?_ ?_
  rintro _ w10 ⟨x4, r4, hc4, rfl, h45, c8⟩
  have z15 := c8.size
  have cl6 := (cut_true hc4).2
  obtain ⟨tr3, htr3⟩ : ∃ t, t = Lib.trimPrefix x4 [83, 101, 110, 100, 101, 114, 58, 32] := ⟨_, rfl⟩
  rw [← htr3]
  have cl7 : tr3.length ≤ x4.length := htr3 ▸ trim_len x4 [83, 101, 110, 100, 101, 114, 58, 32]
  have hl5 : Lns r [x1, x2, y2, y3, y4, y5, x4] r4 := Lns.snoc hl4 hc4
  refine ops_run4 (l' := [(0, .pointer (some ⟨ba, 0, none⟩)), (1, .pointer (some ⟨be, 0, none⟩)), (2, .pointer (some ⟨bb, 0, none⟩)), (5, .func (.func 51) #[] #[.pointer (some ⟨b2, 0, none⟩)]), (6, S tr2), (7, .bool (Lib.hasPrefix x2 [67, 111, 110, 116, 101, 110, 116, 45, 84, 121, 112, 101, 58, 32, 109, 117, 108, 116, 105, 112, 97, 114, 116, 47, 109, 105, 120, 101, 100, 59, 32, 98, 111, 117, 110, 100, 97, 114, 121, 61])), (38, S tr3), (39, .bool (Lib.hasPrefix x4 [83, 101, 110, 100, 101, 114, 58, 32])), (40, .pointer (some ⟨be, 0, none⟩))]) (by kernel_rfl) ?_
  have h46 := hbe.keep0 c1 (by omega)
  have h47 := h46.keep1 c2 (by omega) (by omega)
  have h48 := h47.keep0 c3 (by omega)
  have h49 := h48.keep1 c4 (by omega) (by omega)
  have h50 := h49.keep1 c5 (by omega) (by omega)
  have h51 := h50.keep1 c6 (by omega) (by omega)
  have h52 := h51.keep1 h15 (by omega) (by omega)
  have h53 := h52.keep1 c8 (by omega) (by omega)
  refine ops_store (i := 0) (v := S tr3) [S tr3, .slice none 0 0, .int .i64 0] (by kernel_rfl) (by kernel_rfl) (by kernel_rfl) (by kernel_rfl) (by kernel_rfl) (by kernel_rfl) h53 (by kernel_rfl) (by kernel_rfl) (fun w11 h54 c9 z16 => ?_)
  have z17 := c9.size
  refine ops_run1 (l' := [(0, .pointer (some ⟨ba, 0, none⟩)), (1, .pointer (some ⟨be, 0, none⟩)), (2, .pointer (some ⟨bb, 0, none⟩)), (5, .func (.func 51) #[] #[.pointer (some ⟨b2, 0, none⟩)]), (6, S tr2), (7, .bool (Lib.hasPrefix x4 [83, 101, 110, 100, 101, 114, 58, 32]))]) (by kernel_rfl) ?_
  refine ops_nil (nx_seq (at_seq (at_region ?_)))
  refine ops_run1 (l' := [(0, .pointer (some ⟨ba, 0, none⟩)), (1, .pointer (some ⟨be, 0, none⟩)), (2, .pointer (some ⟨bb, 0, none⟩)), (5, .func (.func 51) #[] #[.pointer (some ⟨b2, 0, none⟩)]), (6, S tr2), (7, .bool (Lib.hasPrefix x4 [83, 101, 110, 100, 101, 114, 58, 32])), (41, .bool (Lib.hasPrefix x4 [83, 101, 110, 100, 101, 114, 58, 32]))]) (by kernel_rfl) ?_
  refine ops_callp (by kernel_rfl) (by kernel_rfl) (by kernel_rfl) (mime_must (Lib.hasPrefix x4 [83, 101, 110, 100, 101, 114, 58, 32]) (110) w11) ?_ ?_
  rintro _ w12 ⟨q3, rfl, hwq⟩
  rw [hwq]
  clear hwq w12
  refine ops_nil (nx_seq (at_seq (at_region ?_)))
  refine ops_run1 (l' := [(0, .pointer (some ⟨ba, 0, none⟩)), (1, .pointer (some ⟨be, 0, none⟩)), (2, .pointer (some ⟨bb, 0, none⟩)), (5, .func (.func 51) #[] #[.pointer (some ⟨b2, 0, none⟩)]), (6, S tr2), (7, .bool (Lib.hasPrefix x4 [83, 101, 110, 100, 101, 114, 58, 32])), (44, .func (.func 51) #[] #[.pointer (some ⟨b2, 0, none⟩)])]) (by kernel_rfl) ?_
  have h55 := h42.keep1 c8 (by omega) (by omega)
  have h56 := h55.keep1 c9 (by omega) (by omega)
  have h57 := h45.keep1 c9 (by omega) (by omega)
  have h58 := h44.keep c8 (by omega) (by intro y hy; simp only [List.mem_cons, List.not_mem_nil, or_false]; omega)
  have h59 := h58.keep c9 (by omega) (by intro y hy; simp only [List.mem_cons, List.not_mem_nil, or_false]; omega)
  refine ops_callp (by kernel_rfl) (by kernel_rfl) (by kernel_rfl) (field_ok [82, 101, 99, 101, 105, 118, 101, 100, 58, 32] h56 h57 (by omega) h59 (by omega)) ?_ ?_
  rintro _ w13 ⟨x5, r5, hc5, rfl, h60, c10⟩
  have z18 := c10.size
  have cl8 := (cut_true hc5).2
  obtain ⟨tr4, htr4⟩ : ∃ t, t = Lib.trimPrefix x5 [82, 101, 99, 101, 105, 118, 101, 100, 58, 32] := ⟨_, rfl⟩
  rw [← htr4]
  have cl9 : tr4.length ≤ x5.length := htr4 ▸ trim_len x5 [82, 101, 99, 101, 105, 118, 101, 100, 58, 32]
  have hl6 : Lns r [x1, x2, y2, y3, y4, y5, x4, x5] r5 := Lns.snoc hl5 hc5
  refine ops_run5 (l' := [(0, .pointer (some ⟨ba, 0, none⟩)), (1, .pointer (some ⟨be, 0, none⟩)), (2, .pointer (some ⟨bb, 0, none⟩)), (5, .func (.func 51) #[] #[.pointer (some ⟨b2, 0, none⟩)]), (6, S tr2), (7, .bool (Lib.hasPrefix x5 [82, 101, 99, 101, 105, 118, 101, 100, 58, 32])), (8, S tr4)]) (by kernel_rfl) ?_
  refine ops_nil (nx_seq (at_seq (at_region ?_)))
  refine ops_run1 (l' := [(0, .pointer (some ⟨ba, 0, none⟩)), (1, .pointer (some ⟨be, 0, none⟩)), (2, .pointer (some ⟨bb, 0, none⟩)), (5, .func (.func 51) #[] #[.pointer (some ⟨b2, 0, none⟩)]), (6, S tr2), (8, S tr4), (48, .bool (Lib.hasPrefix x5 [82, 101, 99, 101, 105, 118, 101, 100, 58, 32]))]) (by kernel_rfl) ?_
  refine ops_callp (by kernel_rfl) (by kernel_rfl) (by kernel_rfl) (mime_must (Lib.hasPrefix x5 [82, 101, 99, 101, 105, 118, 101, 100, 58, 32]) (110) w13) ?_ ?_
  rintro _ w14 ⟨q4, rfl, hwq⟩
  rw [hwq]
  clear hwq w14
  refine ops_nil (nx_seq (at_seq (at_region ?_)))
  refine ops_run1 (l' := [(0, .pointer (some ⟨ba, 0, none⟩)), (1, .pointer (some ⟨be, 0, none⟩)), (2, .pointer (some ⟨bb, 0, none⟩)), (5, .func (.func 51) #[] #[.pointer (some ⟨b2, 0, none⟩)]), (6, S tr2), (51, S tr4)]) (by kernel_rfl) ?_
  have h62 := h59.keep c10 (by omega) (by intro y hy; simp only [List.mem_cons, List.not_mem_nil, or_false]; omega)
  refine ops_callr (by kernel_rfl) (by kernel_rfl) (by kernel_rfl) (strconv_ParseInt_ok tr4 (by first | omega | (simp only [List.length_append, List.length_cons, List.length_nil, List.length_take, List.length_drop, List.length_map]; omega)) w13 h62) ?_
  rintro _ w15 ⟨c11, (⟨n1, h61, rfl⟩ | ⟨h61, n9, T1, p1, rfl⟩)⟩
  have z19 := c11.size
  have rg1 := parse_range h61
  refine ops_run5 (l' := [(0, .pointer (some ⟨ba, 0, none⟩)), (1, .pointer (some ⟨be, 0, none⟩)), (2, .pointer (some ⟨bb, 0, none⟩)), (5, .func (.func 51) #[] #[.pointer (some ⟨b2, 0, none⟩)]), (6, S tr2), (9, .int .i64 n1), (10, .nilIface)]) (by kernel_rfl) ?_
  refine ops_nil (nx_seq (at_seq (at_region ?_)))
  refine ops_run2 (l' := [(0, .pointer (some ⟨ba, 0, none⟩)), (1, .pointer (some ⟨be, 0, none⟩)), (2, .pointer (some ⟨bb, 0, none⟩)), (5, .func (.func 51) #[] #[.pointer (some ⟨b2, 0, none⟩)]), (6, S tr2), (9, .int .i64 n1), (56, .bool true)]) (by kernel_rfl) ?_
  refine ops_callp (by kernel_rfl) (by kernel_rfl) (by kernel_rfl) (mime_must true (110) w15) ?_ (fun ch w' a ha h => by cases h.1)
  rintro _ w16 ⟨_, rfl, hwq⟩
  rw [hwq]
  clear hwq w16
  refine ops_nil (nx_seq (at_seq (at_region ?_)))
  refine ops_run2 (l' := [(0, .pointer (some ⟨ba, 0, none⟩)), (1, .pointer (some ⟨be, 0, none⟩)), (2, .pointer (some ⟨bb, 0, none⟩)), (5, .func (.func 51) #[] #[.pointer (some ⟨b2, 0, none⟩)]), (6, S tr2), (58, .int .i64 n1), (59, .pointer (some ⟨be, 2, none⟩))]) (by kernel_rfl) ?_
  have h63 := h54.keep1 c10 (by omega) (by omega)
  have h64 := h63.keep0 c11 (by omega)
  refine ops_store (i := 2) (v := .int .i64 n1) [S tr3, .slice none 0 0, .int .i64 n1] (by kernel_rfl) (by kernel_rfl) (by kernel_rfl) (by kernel_rfl) (by kernel_rfl) (by kernel_rfl) h64 (by kernel_rfl) (by kernel_rfl) (fun w17 h65 c12 z20 => ?_)
  have z21 := c12.size
  refine ops_nil (nx_seq ?_)
  refine at_cut (X := Value × (List Bytes) × Bytes × Bytes × Bytes) (fun x_ => [(0, .pointer (some ⟨ba, 0, none⟩)), (1, .pointer (some ⟨be, 0, none⟩)), (2, .pointer (some ⟨bb, 0, none⟩)), (6, S tr2)]) (fun x_ W2 => Chg [be, b1] (w17.heap.size) w17 W2 ∧ Blk W2 be [S tr3, x_.1, .int .i64 n1] 26 ∧ OwnS W2 w17.heap.size x_.1 x_.2.1 ∧ (x_.2.1.length ≤ 101) ∧ (Lns r ([x1, x2, y2, y3, y4, y5, x4, x5] ++ x_.2.1.map (cRP ++ ·)) x_.2.2.1) ∧ (Lib.cut x_.2.2.1 crlf = (x_.2.2.2.1, x_.2.2.2.2, true)) ∧ (Lib.hasPrefix x_.2.2.2.1 cRP = false ∨ 100 < x_.2.1.length) ∧ (∀ s : Bytes, s ∈ x_.2.1 → s.length ≤ 1000000)) ?_ ?_
  refine at_block ?_
  have h66 := h60.keep0 c11 (by omega)
  have h67 := h66.keep1 c12 (by omega) (by omega)
  refine at_loop (X := Value × (List Bytes) × Bytes) (fun x_ => [(0, .pointer (some ⟨ba, 0, none⟩)), (1, .pointer (some ⟨be, 0, none⟩)), (2, .pointer (some ⟨bb, 0, none⟩)), (5, .func (.func 51) #[] #[.pointer (some ⟨b2, 0, none⟩)]), (6, S tr2)]) (fun x_ W3 => Chg [be, b1] (w17.heap.size) w17 W3 ∧ Blk W3 be [S tr3, x_.1, .int .i64 n1] 26 ∧ OwnS W3 w17.heap.size x_.1 x_.2.1 ∧ Blk W3 b1 [S x_.2.2] 9 ∧ (x_.2.1.length ≤ 101) ∧ (Lns r ([x1, x2, y2, y3, y4, y5, x4, x5] ++ x_.2.1.map (cRP ++ ·)) x_.2.2) ∧ (∀ s : Bytes, s ∈ x_.2.1 → s.length ≤ 1000000)) (fun x_ => 102 - x_.2.1.length) (.slice none 0 0, [], r5) (proj_sub [0, 1, 2, 5, 6] (by kernel_rfl)) ⟨(Chg.refl [be, b1] w17), h65, Own.nil _ _ _ (by omega), h67, (show [].length ≤ 101 by first | omega | (simp only [List.length_append, List.length_cons, List.length_nil, List.length_take, List.length_drop, List.length_map]; omega)), (show Lns r ([x1, x2, y2, y3, y4, y5, x4, x5] ++ [].map (cRP ++ ·)) r5 by exact hl6), (show ∀ s : Bytes, s ∈ [] → s.length ≤ 1000000 by intro s hs; cases hs)⟩ ?_
  rintro ⟨tv, ts, rs⟩ w18 ⟨h68, h69, h70, h71, h72, h73, h74⟩
  replace h68 : Chg [be, b1] (w17.heap.size) w17 w18 := h68
  replace h69 : Blk w18 be [S tr3, tv, .int .i64 n1] 26 := h69
  replace h70 : OwnS w18 w17.heap.size tv ts := h70
  replace h71 : Blk w18 b1 [S rs] 9 := h71
  replace h72 : (ts.length ≤ 101) := h72
  replace h73 : (Lns r ([x1, x2, y2, y3, y4, y5, x4, x5] ++ ts.map (cRP ++ ·)) rs) := h73
  replace h74 : (∀ s : Bytes, s ∈ ts → s.length ≤ 1000000) := h74
  have z22 := h68.size
  have z23 := h69.lt
  have z24 := h71.lt
  have hrl := h73.le
  have htsl := h74
  refine at_block (at_seq (at_region ?_))
  refine ops_run1 (l' := [(0, .pointer (some ⟨ba, 0, none⟩)), (1, .pointer (some ⟨be, 0, none⟩)), (2, .pointer (some ⟨bb, 0, none⟩)), (5, .func (.func 51) #[] #[.pointer (some ⟨b2, 0, none⟩)]), (6, S tr2), (61, .func (.func 51) #[] #[.pointer (some ⟨b2, 0, none⟩)])]) (by kernel_rfl) ?_
  have h75 := h56.keep1 c10 (by omega) (by omega)
  have h76 := h75.keep0 c11 (by omega)
  have h77 := h76.keep1 c12 (by omega) (by omega)
  have h78 := h77.keep h68 (by omega) (by simp only [List.mem_cons, List.not_mem_nil, or_false, not_or]; omega)
  have h79 := h62.keep0 c11 (by omega)
  have h80 := h79.keep c12 (by omega) (by intro y hy; simp only [List.mem_cons, List.not_mem_nil, or_false]; omega)
  have h81 := h80.keep h68 (by omega) (by intro y hy; simp only [List.mem_cons, List.not_mem_nil, or_false]; omega)
  refine ops_callp (by kernel_rfl) (by kernel_rfl) (by kernel_rfl) (field_ok [82, 101, 99, 105, 112, 105, 101, 110, 116, 58, 32] h78 h71 (by omega) h81 (by omega)) ?_ ?_
  rintro _ w19 ⟨x6, r6, hc6, rfl, h82, c13⟩
  have z25 := c13.size
  have cl10 := (cut_true hc6).2
  obtain ⟨tr5, htr5⟩ : ∃ t, t = Lib.trimPrefix x6 [82, 101, 99, 105, 112, 105, 101, 110, 116, 58, 32] := ⟨_, rfl⟩
  rw [← htr5]
  have cl11 : tr5.length ≤ x6.length := htr5 ▸ trim_len x6 [82, 101, 99, 105, 112, 105, 101, 110, 116, 58, 32]
  have hl7 : Lns r (([x1, x2, y2, y3, y4, y5, x4, x5] ++ ts.map (cRP ++ ·)) ++ [x6]) r6 := Lns.snoc h73 hc6
  refine ops_run5 (l' := [(0, .pointer (some ⟨ba, 0, none⟩)), (1, .pointer (some ⟨be, 0, none⟩)), (2, .pointer (some ⟨bb, 0, none⟩)), (5, .func (.func 51) #[] #[.pointer (some ⟨b2, 0, none⟩)]), (6, S tr2), (11, S tr5), (12, .bool (Lib.hasPrefix x6 [82, 101, 99, 105, 112, 105, 101, 110, 116, 58, 32]))]) (by kernel_rfl) ?_
  refine ops_nil (nx_seq (at_seq (at_seq (at_region ?_))))
  refine ops_run3 (l' := [(0, .pointer (some ⟨ba, 0, none⟩)), (1, .pointer (some ⟨be, 0, none⟩)), (2, .pointer (some ⟨bb, 0, none⟩)), (5, .func (.func 51) #[] #[.pointer (some ⟨b2, 0, none⟩)]), (6, S tr2), (11, S tr5), (67, .bool (!(Lib.hasPrefix x6 [82, 101, 99, 105, 112, 105, 101, 110, 116, 58, 32])))]) (by kernel_rfl) ?_
  cases q6 : (Lib.hasPrefix x6 [82, 101, 99, 105, 112, 105, 101, 110, 116, 58, 32])
  first | rw [q6] | skip
  refine ops_run5 (l' := [(0, .pointer (some ⟨ba, 0, none⟩)), (1, .pointer (some ⟨be, 0, none⟩)), (2, .pointer (some ⟨bb, 0, none⟩)), (5, .func (.func 51) #[] #[.pointer (some ⟨b2, 0, none⟩)]), (6, S tr2), (11, S tr5), (72, .bool true)]) (by kernel_rfl) ?_
  refine ops_nil (nx_seq ?_)
  refine at_ift (by kernel_rfl) ?_
  refine at_exit (ex_seq (ex_past rfl (ex_inv (ex_here ?_))))
  have h83 := h69.keep1 c13 (by omega) (by omega)
  have h84 := h70.keep c13 (by omega) (fun b _ _ => by simp only [List.mem_cons, List.not_mem_nil, or_false, not_or]; omega)
  exact nx_meet (tv, ts, rs, x6, r6) (proj_sub [0, 1, 2, 6] (by kernel_rfl)) ⟨(((Chg.refl [be, b1] w17).step h68 (by omega) (by intro y hy; simp only [List.mem_cons, List.not_mem_nil, or_false, false_or] at hy ⊢; try omega)).step c13 (by omega) (by intro y hy; simp only [List.mem_cons, List.not_mem_nil, or_false, false_or] at hy ⊢; try omega)), h83, h84, (show ts.length ≤ 101 by first | omega | (simp only [List.length_append, List.length_cons, List.length_nil, List.length_take, List.length_drop, List.length_map]; omega)), (show Lns r ([x1, x2, y2, y3, y4, y5, x4, x5] ++ ts.map (cRP ++ ·)) rs by exact h73), (show Lib.cut rs crlf = (x6, r6, true) by exact hc6), (show Lib.hasPrefix x6 cRP = false ∨ 100 < ts.length by exact .inl q6), (show ∀ s : Bytes, s ∈ ts → s.length ≤ 1000000 by exact htsl)⟩
  first | rw [q6] | skip
  refine ops_run1 (l' := [(0, .pointer (some ⟨ba, 0, none⟩)), (1, .pointer (some ⟨be, 0, none⟩)), (2, .pointer (some ⟨bb, 0, none⟩)), (5, .func (.func 51) #[] #[.pointer (some ⟨b2, 0, none⟩)]), (6, S tr2), (11, S tr5), (67, .bool false), (68, .pointer (some ⟨be, 1, none⟩))]) (by kernel_rfl) ?_
  have h85 := h69.keep1 c13 (by omega) (by omega)
  refine ops_loadB (i := 1) (v := tv) (by kernel_rfl) (by kernel_rfl) (by kernel_rfl) (by kernel_rfl) h85 (by kernel_rfl) ?_
  have h86 := h70.keep c13 (by omega) (fun b _ _ => by simp only [List.mem_cons, List.not_mem_nil, or_false, not_or]; omega)
  refine ops_len (e := 9) (by kernel_rfl) (by kernel_rfl) (by kernel_rfl) (by kernel_rfl) h86.sl ?_
  refine ops_run2 (l' := [(0, .pointer (some ⟨ba, 0, none⟩)), (1, .pointer (some ⟨be, 0, none⟩)), (2, .pointer (some ⟨bb, 0, none⟩)), (5, .func (.func 51) #[] #[.pointer (some ⟨b2, 0, none⟩)]), (6, S tr2), (11, S tr5), (72, .bool (decide (((ts.length : Int) : Int) > (100 : Int))))]) (by kernel_rfl) ?_
  refine ops_nil (nx_seq ?_)
  refine at_ifp (((ts.length : Int) : Int) > (100 : Int)) (by kernel_rfl) (fun q7 => ?_) (fun q7 => ?_)
  refine at_exit (ex_seq (ex_past rfl (ex_inv (ex_here ?_))))
  exact nx_meet (tv, ts, rs, x6, r6) (proj_sub [0, 1, 2, 6] (by kernel_rfl)) ⟨(((Chg.refl [be, b1] w17).step h68 (by omega) (by intro y hy; simp only [List.mem_cons, List.not_mem_nil, or_false, false_or] at hy ⊢; try omega)).step c13 (by omega) (by intro y hy; simp only [List.mem_cons, List.not_mem_nil, or_false, false_or] at hy ⊢; try omega)), h85, h86, (show ts.length ≤ 101 by first | omega | (simp only [List.length_append, List.length_cons, List.length_nil, List.length_take, List.length_drop, List.length_map]; omega)), (show Lns r ([x1, x2, y2, y3, y4, y5, x4, x5] ++ ts.map (cRP ++ ·)) rs by exact h73), (show Lib.cut rs crlf = (x6, r6, true) by exact hc6), (show Lib.hasPrefix x6 cRP = false ∨ 100 < ts.length by exact .inr (by omega)), (show ∀ s : Bytes, s ∈ ts → s.length ≤ 1000000 by exact htsl)⟩
  refine at_skip (nx_seq (at_region ?_))
  refine ops_run1 (l' := [(0, .pointer (some ⟨ba, 0, none⟩)), (1, .pointer (some ⟨be, 0, none⟩)), (2, .pointer (some ⟨bb, 0, none⟩)), (5, .func (.func 51) #[] #[.pointer (some ⟨b2, 0, none⟩)]), (6, S tr2), (11, S tr5), (73, .pointer (some ⟨be, 1, none⟩))]) (by kernel_rfl) ?_
  refine ops_loadB (i := 1) (v := tv) (by kernel_rfl) (by kernel_rfl) (by kernel_rfl) (by kernel_rfl) h85 (by kernel_rfl) ?_
  refine ops_run1 (l' := [(0, .pointer (some ⟨ba, 0, none⟩)), (1, .pointer (some ⟨be, 0, none⟩)), (2, .pointer (some ⟨bb, 0, none⟩)), (5, .func (.func 51) #[] #[.pointer (some ⟨b2, 0, none⟩)]), (6, S tr2), (74, tv), (75, S tr5)]) (by kernel_rfl) ?_
  refine ops_lit (e := 9) (sz := 1) [S tr5] (by kernel_rfl) (by kernel_rfl) (by kernel_rfl) rfl (by decide) (fun v1 w20 h87 c14 z26 => ?_)
  have z27 := c14.size
  replace h87 : OwnS w20 (w19.heap.size) v1 [tr5] := h87.1
  have h88 := h86.keep c14 (by omega) (fun _ _ _ => by simp)
  refine ops_appendS (e := 9) (by_ := 16) (l1 := ts) (l2 := [tr5]) (by kernel_rfl) (by kernel_rfl) (by kernel_rfl) (by kernel_rfl) (by kernel_rfl) (by kernel_rfl) (by kernel_rfl) h88 h87.sl (by first | omega | (simp only [List.length_append, List.length_cons, List.length_nil, List.length_take, List.length_drop, List.length_map]; omega)) (by first | omega | (simp only [List.length_append, List.length_cons, List.length_nil, List.length_take, List.length_drop, List.length_map]; omega)) (fun v2 w21 h89 c15 c16 => ?_)
  have z28 := c15.size
  refine ops_run1 (l' := [(0, .pointer (some ⟨ba, 0, none⟩)), (1, .pointer (some ⟨be, 0, none⟩)), (2, .pointer (some ⟨bb, 0, none⟩)), (5, .func (.func 51) #[] #[.pointer (some ⟨b2, 0, none⟩)]), (6, S tr2), (77, v2), (78, .pointer (some ⟨be, 1, none⟩))]) (by kernel_rfl) ?_
  have h90 := h85.keep0 c14 (by omega)
  have h91 := h90.keep0 c15 (by omega)
  refine ops_store (i := 1) (v := v2) [S tr3, v2, .int .i64 n1] (by kernel_rfl) (by kernel_rfl) (by kernel_rfl) (by kernel_rfl) h89.sl.one (by kernel_rfl) h91 (by kernel_rfl) (by kernel_rfl) (fun w22 h92 c17 z29 => ?_)
  have z30 := c17.size
  refine ops_nil (nx_blk ?_)
  have h93 := h89.keep c17 (by omega) (fun b _ _ => by simp only [List.mem_cons, List.not_mem_nil, or_false, not_or]; omega)
  have h94 := h82.keep0 c14 (by omega)
  have h95 := h94.keep0 c15 (by omega)
  have h96 := h95.keep1 c17 (by omega) (by omega)
  refine nx_round (v2, ts ++ [tr5], r6) (proj_sub [0, 1, 2, 5, 6] (by kernel_rfl)) ⟨((((((Chg.refl [be, b1] w17).step h68 (by omega) (by intro y hy; simp only [List.mem_cons, List.not_mem_nil, or_false, false_or] at hy ⊢; try omega)).step c13 (by omega) (by intro y hy; simp only [List.mem_cons, List.not_mem_nil, or_false, false_or] at hy ⊢; try omega)).step0 c14 (by omega)).step0 c15 (by omega)).step c17 (by omega) (by intro y hy; simp only [List.mem_cons, List.not_mem_nil, or_false, false_or] at hy ⊢; try omega)), h92, h93, h96, (show (ts ++ [tr5]).length ≤ 101 by first | omega | (simp only [List.length_append, List.length_cons, List.length_nil, List.length_take, List.length_drop, List.length_map]; omega)), (show Lns r ([x1, x2, y2, y3, y4, y5, x4, x5] ++ (ts ++ [tr5]).map (cRP ++ ·)) r6 by rw [List.map_append, ← List.append_assoc]; rw [htr5]; show Lns r (_ ++ [cRP ++ Lib.trimPrefix x6 cRP]) _; rw [← hasPrefix_eq q6]; exact hl7), (show ∀ s : Bytes, s ∈ (ts ++ [tr5]) → s.length ≤ 1000000 by exact fun s hs => (List.mem_append.1 hs).elim (htsl s) (fun h => by rw [List.mem_singleton.1 h]; omega))⟩ (show 102 - (ts ++ [tr5]).length < 102 - ts.length by simp only [List.length_append, List.length_cons, List.length_nil]; omega)
  rintro ch w19 a ha ⟨hch, ⟨x6, r6, hc6⟩, c13⟩
  have z31 := c13.size
  have h97 := h69.keep1 c13 (by omega) (by omega)
  have h98 := hbb.keep0 c1 (by omega)
  have h99 := h98.keep1 c2 (by omega) (by omega)
  have h100 := h99.keep0 c3 (by omega)
  have h101 := h100.keep1 c4 (by omega) (by omega)
  have h102 := h101.keep1 c5 (by omega) (by omega)
  have h103 := h102.keep1 c6 (by omega) (by omega)
  have h104 := h103.keep1 h15 (by omega) (by omega)
  have h105 := h104.keep1 c8 (by omega) (by omega)
  have h106 := h105.keep1 c9 (by omega) (by omega)
  have h107 := h106.keep1 c10 (by omega) (by omega)
  have h108 := h107.keep0 c11 (by omega)
  have h109 := h108.keep1 c12 (by omega) (by omega)
  have h110 := h109.keep h68 (by omega) (by simp only [List.mem_cons, List.not_mem_nil, or_false, not_or]; omega)
  have h111 := h110.keep1 c13 (by omega) (by omega)
  exact out_panic ha (.inr ⟨_, rfl, hch, ⟨lns_none h73 hc6 (fun fr to at_ b k hw => (by have h9 := hw.to h73; simp only [List.length_append, List.length_cons, List.length_nil, List.length_map]; omega)), _, _, _, _, h97, h111⟩, (((((((((((((((Chg.refl [be, bb] w).step0 c1 (by omega)).step c2 (by omega) (by intro y hy; simp only [List.mem_cons, List.not_mem_nil, or_false, false_or] at hy ⊢; try omega)).step0 c3 (by omega)).step c4 (by omega) (by intro y hy; simp only [List.mem_cons, List.not_mem_nil, or_false, false_or] at hy ⊢; try omega)).step c5 (by omega) (by intro y hy; simp only [List.mem_cons, List.not_mem_nil, or_false, false_or] at hy ⊢; try omega)).step c6 (by omega) (by intro y hy; simp only [List.mem_cons, List.not_mem_nil, or_false, false_or] at hy ⊢; try omega)).step h15 (by omega) (by intro y hy; simp only [List.mem_cons, List.not_mem_nil, or_false, false_or] at hy ⊢; try omega)).step c8 (by omega) (by intro y hy; simp only [List.mem_cons, List.not_mem_nil, or_false, false_or] at hy ⊢; try omega)).step c9 (by omega) (by intro y hy; simp only [List.mem_cons, List.not_mem_nil, or_false, false_or] at hy ⊢; try omega)).step c10 (by omega) (by intro y hy; simp only [List.mem_cons, List.not_mem_nil, or_false, false_or] at hy ⊢; try omega)).step0 c11 (by omega)).step c12 (by omega) (by intro y hy; simp only [List.mem_cons, List.not_mem_nil, or_false, false_or] at hy ⊢; try omega)).step h68 (by omega) (by intro y hy; simp only [List.mem_cons, List.not_mem_nil, or_false, false_or] at hy ⊢; try omega)).step c13 (by omega) (by intro y hy; simp only [List.mem_cons, List.not_mem_nil, or_false, false_or] at hy ⊢; try omega))⟩)
  rintro ⟨tv, ts, rs, xe, re⟩ w23 ⟨h112, h113, h114, h115, h116, h117, h118, h119⟩
  replace h112 : Chg [be, b1] (w17.heap.size) w17 w23 := h112
  replace h113 : Blk w23 be [S tr3, tv, .int .i64 n1] 26 := h113
  replace h114 : OwnS w23 w17.heap.size tv ts := h114
  replace h115 : (ts.length ≤ 101) := h115
  replace h116 : (Lns r ([x1, x2, y2, y3, y4, y5, x4, x5] ++ ts.map (cRP ++ ·)) rs) := h116
  replace h117 : (Lib.cut rs crlf = (xe, re, true)) := h117
  replace h118 : (Lib.hasPrefix xe cRP = false ∨ 100 < ts.length) := h118
  replace h119 : (∀ s : Bytes, s ∈ ts → s.length ≤ 1000000) := h119
  have z32 := h112.size
  have z33 := h113.lt
  have htl2 : ts.length ≤ 101 := h115
  have htsl := h119
  refine at_seq (at_region ?_)
  refine ops_loadS (i := 0) (vs := [S tr3, tv, .int .i64 n1]) 3 (by kernel_rfl) (by kernel_rfl) (by kernel_rfl) (by kernel_rfl) (by kernel_rfl) h113 (by kernel_rfl) (by kernel_rfl) ?_
  refine ops_run1 (l' := [(0, .pointer (some ⟨ba, 0, none⟩)), (1, .pointer (some ⟨be, 0, none⟩)), (2, .pointer (some ⟨bb, 0, none⟩)), (6, S tr2), (79, .agg #[S tr3, tv, .int .i64 n1]), (80, S tr2)]) (by kernel_rfl) ?_
  have h120 := h62.keep0 c11 (by omega)
  have h121 := h120.keep c12 (by omega) (by intro y hy; simp only [List.mem_cons, List.not_mem_nil, or_false]; omega)
  have h122 := h121.keep h112 (by omega) (by intro y hy; simp only [List.mem_cons, List.not_mem_nil, or_false]; omega)
  refine ops_callr (by kernel_rfl) (by kernel_rfl) (by kernel_rfl) (ahead_ok tr3 ts (n1) tr2 h114.sl (by omega) htsl (by omega) (by omega) (by omega) (by first | omega | (simp only [List.length_append, List.length_cons, List.length_nil, List.length_take, List.length_drop, List.length_map]; omega)) h122) ?_
  rintro _ w24 ⟨rfl, c18⟩
  have z34 := c18.size
  have ab1 := ahead_bound (fr := tr3) (to := ts) (at_ := n1) (n := tr2) (by omega) htsl (by first | omega | (simp only [List.length_append, List.length_cons, List.length_nil, List.length_take, List.length_drop, List.length_map]; omega)) (by omega) (by omega) (by omega)
  refine ops_run2 (l' := [(0, .pointer (some ⟨ba, 0, none⟩)), (1, .pointer (some ⟨be, 0, none⟩)), (2, .pointer (some ⟨bb, 0, none⟩)), (82, .int .i64 ((((linesP (aheadL tr3 ts (n1) tr2)).length : Nat) : Int))), (83, S tr2)]) (by kernel_rfl) ?_
  refine ops_cat (a := [45, 45]) (b := tr2) (by kernel_rfl) (by kernel_rfl) (by kernel_rfl) (by kernel_rfl) (by first | omega | (simp only [List.length_append, List.length_cons, List.length_nil, List.length_take, List.length_drop, List.length_map]; omega)) ?_
  refine ops_cat (a := [45, 45] ++ tr2) (b := [45, 45]) (by kernel_rfl) (by kernel_rfl) (by kernel_rfl) (by kernel_rfl) (by first | omega | (simp only [List.length_append, List.length_cons, List.length_nil, List.length_take, List.length_drop, List.length_map]; omega)) ?_
  refine ops_lit (e := 9) (sz := 1) [S [], S (([45, 45] ++ tr2) ++ [45, 45])] (by kernel_rfl) (by kernel_rfl) (by kernel_rfl) rfl (by decide) (fun v3 w25 h123 c19 z35 => ?_)
  have z36 := c19.size
  replace h123 : OwnS w25 (w24.heap.size) v3 [[], ([45, 45] ++ tr2) ++ [45, 45]] := h123.1
  refine ops_callr (by kernel_rfl) (by kernel_rfl) (by kernel_rfl) (lines_ok h123.sl (by simp [linesP]; omega)) ?_
  rintro _ w26 ⟨rfl, c20⟩
  have z37 := c20.size
  have lf1 : (linesP [[], ([45, 45] ++ tr2) ++ [45, 45]]).length ≤ 1000100 := by simp [linesP]; omega
  refine ops_run3 (l' := [(0, .pointer (some ⟨ba, 0, none⟩)), (1, .pointer (some ⟨be, 0, none⟩)), (2, .pointer (some ⟨bb, 0, none⟩)), (13, .int .i64 ((((linesP (aheadL tr3 ts (n1) tr2)).length : Nat) : Int))), (14, .int .i64 ((((linesP [[], ([45, 45] ++ tr2) ++ [45, 45]] : Bytes).length : Nat) : Int)))]) (by kernel_rfl) ?_
  refine ops_nil (nx_seq (at_seq (at_region ?_)))
  have h124 := hba.keep0 c1 (by omega)
  have h125 := h124.keep1 c2 (by omega) (by omega)
  have h126 := h125.keep0 c3 (by omega)
  have h127 := h126.keep1 c4 (by omega) (by omega)
  have h128 := h127.keep1 c5 (by omega) (by omega)
  have h129 := h128.keep1 c6 (by omega) (by omega)
  have h130 := h129.keep1 h15 (by omega) (by omega)
  have h131 := h130.keep1 c8 (by omega) (by omega)
  have h132 := h131.keep1 c9 (by omega) (by omega)
  have h133 := h132.keep1 c10 (by omega) (by omega)
  have h134 := h133.keep0 c11 (by omega)
  have h135 := h134.keep1 c12 (by omega) (by omega)
  have h136 := h135.keep h112 (by omega) (by simp only [List.mem_cons, List.not_mem_nil, or_false, not_or]; omega)
  have h137 := h136.keep0 c18 (by omega)
  have h138 := h137.keep0 c19 (by omega)
  have h139 := h138.keep0 c20 (by omega)
  refine ops_loadB (i := 0) (v := rv) (by kernel_rfl) (by kernel_rfl) (by kernel_rfl) (by kernel_rfl) h139 (by kernel_rfl) ?_
  have h140 := hr.keep0 c1 (by omega)
  have h141 := h140.keep1 c2 (by omega) (by omega)
  have h142 := h141.keep0 c3 (by omega)
  have h143 := h142.keep1 c4 (by omega) (by omega)
  have h144 := h143.keep1 c5 (by omega) (by omega)
  have h145 := h144.keep1 c6 (by omega) (by omega)
  have h146 := h145.keep1 h15 (by omega) (by omega)
  have h147 := h146.keep1 c8 (by omega) (by omega)
  have h148 := h147.keep1 c9 (by omega) (by omega)
  have h149 := h148.keep1 c10 (by omega) (by omega)
  have h150 := h149.keep0 c11 (by omega)
  have h151 := h150.keep1 c12 (by omega) (by omega)
  have h152 := h151.keep h112 (by omega) (fun b _ _ => by simp only [List.mem_cons, List.not_mem_nil, or_false, not_or]; omega)
  have h153 := h152.keep0 c18 (by omega)
  have h154 := h153.keep0 c19 (by omega)
  have h155 := h154.keep0 c20 (by omega)
  refine ops_len (e := 5) (by kernel_rfl) (by kernel_rfl) (by kernel_rfl) (by kernel_rfl) h155 ?_
  refine ops_run2 (l' := [(0, .pointer (some ⟨ba, 0, none⟩)), (1, .pointer (some ⟨be, 0, none⟩)), (2, .pointer (some ⟨bb, 0, none⟩)), (13, .int .i64 ((((linesP (aheadL tr3 ts (n1) tr2)).length : Nat) : Int))), (14, .int .i64 ((((linesP [[], ([45, 45] ++ tr2) ++ [45, 45]] : Bytes).length : Nat) : Int))), (90, .int .i64 ((r.length : Int))), (91, .int .i64 ((((linesP (aheadL tr3 ts (n1) tr2)).length : Nat) : Int))), (92, .int .i64 ((((linesP [[], ([45, 45] ++ tr2) ++ [45, 45]] : Bytes).length : Nat) : Int)))]) (by kernel_rfl) ?_
  refine ops_add (a := (((linesP (aheadL tr3 ts (n1) tr2)).length : Nat) : Int)) (b := (((linesP [[], ([45, 45] ++ tr2) ++ [45, 45]] : Bytes).length : Nat) : Int)) (kd := .i64) (by kernel_rfl) (by kernel_rfl) (by kernel_rfl) (by kernel_rfl) (show (-9223372036854775808 : Int) ≤ ((((linesP (aheadL tr3 ts (n1) tr2)).length : Nat) : Int)) + ((((linesP [[], ([45, 45] ++ tr2) ++ [45, 45]] : Bytes).length : Nat) : Int)) by omega) (show ((((linesP (aheadL tr3 ts (n1) tr2)).length : Nat) : Int)) + ((((linesP [[], ([45, 45] ++ tr2) ++ [45, 45]] : Bytes).length : Nat) : Int)) ≤ (9223372036854775807 : Int) by omega) ?_
  refine ops_run1 (l' := [(0, .pointer (some ⟨ba, 0, none⟩)), (1, .pointer (some ⟨be, 0, none⟩)), (2, .pointer (some ⟨bb, 0, none⟩)), (13, .int .i64 ((((linesP (aheadL tr3 ts (n1) tr2)).length : Nat) : Int))), (14, .int .i64 ((((linesP [[], ([45, 45] ++ tr2) ++ [45, 45]] : Bytes).length : Nat) : Int))), (94, .bool (decide (((r.length : Int) : Int) ≥ (((((linesP (aheadL tr3 ts (n1) tr2)).length : Nat) : Int)) + ((((linesP [[], ([45, 45] ++ tr2) ++ [45, 45]] : Bytes).length : Nat) : Int)) : Int))))]) (by kernel_rfl) ?_
  refine ops_callp (by kernel_rfl) (by kernel_rfl) (by kernel_rfl) (mime_must (decide (((r.length : Int) : Int) ≥ (((((linesP (aheadL tr3 ts (n1) tr2)).length : Nat) : Int)) + ((((linesP [[], ([45, 45] ++ tr2) ++ [45, 45]] : Bytes).length : Nat) : Int)) : Int))) (110) w26) ?_ ?_
  rintro _ w27 ⟨q8, rfl, hwq⟩
  rw [hwq]
  clear hwq w27
  replace q8 := of_decide_eq_true q8
  refine ops_nil (nx_seq (at_seq (at_region ?_)))
  refine ops_loadB (i := 0) (v := rv) (by kernel_rfl) (by kernel_rfl) (by kernel_rfl) (by kernel_rfl) h139 (by kernel_rfl) ?_
  refine ops_run1 (l' := [(0, .pointer (some ⟨ba, 0, none⟩)), (1, .pointer (some ⟨be, 0, none⟩)), (2, .pointer (some ⟨bb, 0, none⟩)), (14, .int .i64 ((((linesP [[], ([45, 45] ++ tr2) ++ [45, 45]] : Bytes).length : Nat) : Int))), (96, rv), (97, .int .i64 ((((linesP (aheadL tr3 ts (n1) tr2)).length : Nat) : Int)))]) (by kernel_rfl) ?_
  refine ops_loadB (i := 0) (v := rv) (by kernel_rfl) (by kernel_rfl) (by kernel_rfl) (by kernel_rfl) h139 (by kernel_rfl) ?_
  refine ops_len (e := 5) (by kernel_rfl) (by kernel_rfl) (by kernel_rfl) (by kernel_rfl) h155 ?_
  refine ops_run1 (l' := [(0, .pointer (some ⟨ba, 0, none⟩)), (1, .pointer (some ⟨be, 0, none⟩)), (2, .pointer (some ⟨bb, 0, none⟩)), (96, rv), (97, .int .i64 ((((linesP (aheadL tr3 ts (n1) tr2)).length : Nat) : Int))), (99, .int .i64 ((r.length : Int))), (100, .int .i64 ((((linesP [[], ([45, 45] ++ tr2) ++ [45, 45]] : Bytes).length : Nat) : Int)))]) (by kernel_rfl) ?_
  refine ops_sub_ (a := (r.length : Int)) (b := (((linesP [[], ([45, 45] ++ tr2) ++ [45, 45]] : Bytes).length : Nat) : Int)) (kd := .i64) (by kernel_rfl) (by kernel_rfl) (by kernel_rfl) (by kernel_rfl) (show (-9223372036854775808 : Int) ≤ ((r.length : Int)) - ((((linesP [[], ([45, 45] ++ tr2) ++ [45, 45]] : Bytes).length : Nat) : Int)) by omega) (show ((r.length : Int)) - ((((linesP [[], ([45, 45] ++ tr2) ++ [45, 45]] : Bytes).length : Nat) : Int)) ≤ (9223372036854775807 : Int) by omega) ?_
  refine ops_part (e := 5) (i := (((linesP (aheadL tr3 ts (n1) tr2)).length : Nat) : Int)) (kd := .i64) (i' := ((r.length : Int)) - ((((linesP [[], ([45, 45] ++ tr2) ++ [45, 45]] : Bytes).length : Nat) : Int))) (kd' := .i64) ((linesP (aheadL tr3 ts (n1) tr2)).length) ((((r.length : Int)) - ((((linesP [[], ([45, 45] ++ tr2) ++ [45, 45]] : Bytes).length : Nat) : Int))).toNat) (by kernel_rfl) (by kernel_rfl) (by kernel_rfl) (by kernel_rfl) (by kernel_rfl) (by kernel_rfl) (by kernel_rfl) h155 (by first | omega | (simp only [List.length_append, List.length_cons, List.length_nil, List.length_take, List.length_drop, List.length_map]; omega)) (by first | omega | (simp only [List.length_append, List.length_cons, List.length_nil, List.length_take, List.length_drop, List.length_map]; omega)) (by first | omega | (simp only [List.length_append, List.length_cons, List.length_nil, List.length_take, List.length_drop, List.length_map]; omega)) (by first | omega | (simp only [List.length_append, List.length_cons, List.length_nil, List.length_take, List.length_drop, List.length_map]; omega)) (fun v4 h156 => ?_)
  replace h156 := bs_part h156 (by omega)
  refine ops_callr (by kernel_rfl) (by kernel_rfl) (by kernel_rfl) (bytes_Clone_ok h156 (by first | omega | (simp only [List.length_append, List.length_cons, List.length_nil, List.length_take, List.length_drop, List.length_map]; omega))) ?_
  rintro v5 w28 ⟨h158, c21⟩
  have z38 := c21.size
  obtain ⟨b, hbq⟩ : ∃ b, b = (r.drop ((linesP (aheadL tr3 ts (n1) tr2)).length)).take (((((r.length : Int)) - ((((linesP [[], ([45, 45] ++ tr2) ++ [45, 45]] : Bytes).length : Nat) : Int))).toNat) - ((linesP (aheadL tr3 ts (n1) tr2)).length)) := ⟨_, rfl⟩
  rw [← hbq] at h158
  have hbd : b = (r.drop (linesP (aheadL tr3 ts n1 tr2)).length).take (r.length - (tailP tr2).length - (linesP (aheadL tr3 ts n1 tr2)).length) := by rw [hbq, show tailP tr2 = linesP [[], ([45, 45] ++ tr2) ++ [45, 45]] from rfl]; congr 1; omega
  have h159 := hbb.keep0 c1 (by omega)
  have h160 := h159.keep1 c2 (by omega) (by omega)
  have h161 := h160.keep0 c3 (by omega)
  have h162 := h161.keep1 c4 (by omega) (by omega)
  have h163 := h162.keep1 c5 (by omega) (by omega)
  have h164 := h163.keep1 c6 (by omega) (by omega)
  have h165 := h164.keep1 h15 (by omega) (by omega)
  have h166 := h165.keep1 c8 (by omega) (by omega)
  have h167 := h166.keep1 c9 (by omega) (by omega)
  have h168 := h167.keep1 c10 (by omega) (by omega)
  have h169 := h168.keep0 c11 (by omega)
  have h170 := h169.keep1 c12 (by omega) (by omega)
  have h171 := h170.keep h112 (by omega) (by simp only [List.mem_cons, List.not_mem_nil, or_false, not_or]; omega)
  have h172 := h171.keep0 c18 (by omega)
  have h173 := h172.keep0 c19 (by omega)
  have h174 := h173.keep0 c20 (by omega)
  have h175 := h174.keep0 c21 (by omega)
  refine ops_store (i := 0) (v := v5) [v5] (by kernel_rfl) (by kernel_rfl) (by kernel_rfl) (by kernel_rfl) ((h158.own (by omega)).sl).one (by kernel_rfl) h175 (by kernel_rfl) (by kernel_rfl) (fun w29 h176 c22 z39 => ?_)
  have z40 := c22.size
  refine ops_nil (nx_seq (at_seq (at_region ?_)))
  have h177 := h113.keep0 c18 (by omega)
  have h178 := h177.keep0 c19 (by omega)
  have h179 := h178.keep0 c20 (by omega)
  have h180 := h179.keep0 c21 (by omega)
  have h181 := h180.keep1 c22 (by omega) (by omega)
  refine ops_loadS (i := 0) (vs := [S tr3, tv, .int .i64 n1]) 3 (by kernel_rfl) (by kernel_rfl) (by kernel_rfl) (by kernel_rfl) (by kernel_rfl) h181 (by kernel_rfl) (by kernel_rfl) ?_
  refine ops_loadB (i := 0) (v := v5) (by kernel_rfl) (by kernel_rfl) (by kernel_rfl) (by kernel_rfl) h176 (by kernel_rfl) ?_
  have h182 := h114.keep c18 (by omega) (fun _ _ _ => by simp)
  have h183 := h182.keep c19 (by omega) (fun _ _ _ => by simp)
  have h184 := h183.keep c20 (by omega) (fun _ _ _ => by simp)
  have h185 := h184.keep c21 (by omega) (fun _ _ _ => by simp)
  have h186 := h185.keep c22 (by omega) (fun b _ _ => by simp only [List.mem_cons, List.not_mem_nil, or_false, not_or]; omega)
  have h187 := h158.keepB c22 (by omega) (fun b _ _ => by simp only [List.mem_cons, List.not_mem_nil, or_false, not_or]; omega)
  have h191 := h122.keep0 c18 (by omega)
  have h192 := h191.keep0 c19 (by omega)
  have h193 := h192.keep0 c20 (by omega)
  have h194 := h193.keep0 c21 (by omega)
  have h195 := h194.keep c22 (by omega) (by intro y hy; simp only [List.mem_cons, List.not_mem_nil, or_false]; omega)
  refine ops_callr (by kernel_rfl) (by kernel_rfl) (by kernel_rfl) (report_ok tr3 ts (n1) b h186.sl (h187.own (by omega)).sl (by omega) (fun s hs => Nat.lt_of_le_of_lt (htsl s hs) (by omega)) (by omega) (by omega) h195) ?_
  rintro _ w30 ⟨c23, (⟨h188, k1, v6, h189, rfl, h190⟩ | ⟨h188, rfl⟩)⟩
  have z41 := c23.size
  refine ops_run5 (l' := [(0, .pointer (some ⟨ba, 0, none⟩)), (15, v6), (16, .int .i64 0)]) (by kernel_rfl) ?_
  refine ops_nil (nx_seq (at_region ?_))
  refine ops_run4 (l' := [(0, .pointer (some ⟨ba, 0, none⟩)), (112, .bool true), (113, v6)]) (by kernel_rfl) ?_
  have h196 := h139.keep0 c21 (by omega)
  have h197 := h196.keep1 c22 (by omega) (by omega)
  have h198 := h197.keep0 c23 (by omega)
  refine ops_loadB (i := 0) (v := rv) (by kernel_rfl) (by kernel_rfl) (by kernel_rfl) (by kernel_rfl) h198 (by kernel_rfl) ?_
  have h199 := h155.keep0 c21 (by omega)
  have h200 := h199.keep1 c22 (by omega) (by omega)
  have h201 := h200.keep0 c23 (by omega)
  refine ops_callr (by kernel_rfl) (by kernel_rfl) (by kernel_rfl) (bytes_Equal_ok h190 h201) ?_
  rintro _ w31 ⟨rfl, c24⟩
  have z42 := c24.size
  refine ops_run1 (l' := [(116, .bool (decide ((repB tr3 ts (n1) b (jn k1) : Bytes) = r)))]) (by kernel_rfl) ?_
  refine ops_callp (by kernel_rfl) (by kernel_rfl) (by kernel_rfl) (mime_must (decide ((repB tr3 ts (n1) b (jn k1) : Bytes) = r)) (110) w31) ?_ ?_
  rintro _ w32 ⟨q9, rfl, hwq⟩
  rw [hwq]
  clear hwq w32
  replace q9 := of_decide_eq_true q9
  refine ops_nil ?_
  refine nx_ret (rs := []) (vs := []) rfl (by kernel_rfl) ?_
  have h202 := h181.keep0 c23 (by omega)
  have h203 := h202.keep0 c24 (by omega)
  have h204 := h176.keep0 c23 (by omega)
  have h205 := h204.keep0 c24 (by omega)
  have h206 := h186.keep c23 (by omega) (fun _ _ _ => by simp)
  have h207 := h206.keep c24 (by omega) (fun _ _ _ => by simp)
  have h208 := h187.keep0 c23
  have h209 := h208.keep0 c24
  exact .inl ⟨_, rfl, ⟨_, ts, n1, b, k1, tv, _, ⟨h188, by omega, h189, Eq.symm q9⟩, h203, h205, (h207.sl).wide (by omega) (by omega) (Nat.le_refl _), ((h209.own (by omega)).sl).wide (by omega) (by omega) (Nat.le_refl _)⟩, (((((((((((((((((((((Chg.refl [be, bb] w).step0 c1 (by omega)).step c2 (by omega) (by intro y hy; simp only [List.mem_cons, List.not_mem_nil, or_false, false_or] at hy ⊢; try omega)).step0 c3 (by omega)).step c4 (by omega) (by intro y hy; simp only [List.mem_cons, List.not_mem_nil, or_false, false_or] at hy ⊢; try omega)).step c5 (by omega) (by intro y hy; simp only [List.mem_cons, List.not_mem_nil, or_false, false_or] at hy ⊢; try omega)).step c6 (by omega) (by intro y hy; simp only [List.mem_cons, List.not_mem_nil, or_false, false_or] at hy ⊢; try omega)).step h15 (by omega) (by intro y hy; simp only [List.mem_cons, List.not_mem_nil, or_false, false_or] at hy ⊢; try omega)).step c8 (by omega) (by intro y hy; simp only [List.mem_cons, List.not_mem_nil, or_false, false_or] at hy ⊢; try omega)).step c9 (by omega) (by intro y hy; simp only [List.mem_cons, List.not_mem_nil, or_false, false_or] at hy ⊢; try omega)).step c10 (by omega) (by intro y hy; simp only [List.mem_cons, List.not_mem_nil, or_false, false_or] at hy ⊢; try omega)).step0 c11 (by omega)).step c12 (by omega) (by intro y hy; simp only [List.mem_cons, List.not_mem_nil, or_false, false_or] at hy ⊢; try omega)).step h112 (by omega) (by intro y hy; simp only [List.mem_cons, List.not_mem_nil, or_false, false_or] at hy ⊢; try omega)).step0 c18 (by omega)).step0 c19 (by omega)).step0 c20 (by omega)).step0 c21 (by omega)).step c22 (by omega) (by intro y hy; simp only [List.mem_cons, List.not_mem_nil, or_false, false_or] at hy ⊢; try omega)).step0 c23 (by omega)).step0 c24 (by omega))⟩
  rintro ch w32 a ha ⟨q9, hch, hwq⟩
  rw [hwq]
  replace q9 := of_decide_eq_false q9
  have h210 := h181.keep0 c23 (by omega)
  have h211 := h210.keep0 c24 (by omega)
  have h212 := h176.keep0 c23 (by omega)
  have h213 := h212.keep0 c24 (by omega)
  exact out_panic ha (.inr ⟨_, rfl, hch, ⟨no_same h116 h117 h118 htr2 htr3 htr4 h61 hbd (.inr ⟨_, h189, q9⟩), _, _, _, _, h211, h213⟩, (((((((((((((((((((((Chg.refl [be, bb] w).step0 c1 (by omega)).step c2 (by omega) (by intro y hy; simp only [List.mem_cons, List.not_mem_nil, or_false, false_or] at hy ⊢; try omega)).step0 c3 (by omega)).step c4 (by omega) (by intro y hy; simp only [List.mem_cons, List.not_mem_nil, or_false, false_or] at hy ⊢; try omega)).step c5 (by omega) (by intro y hy; simp only [List.mem_cons, List.not_mem_nil, or_false, false_or] at hy ⊢; try omega)).step c6 (by omega) (by intro y hy; simp only [List.mem_cons, List.not_mem_nil, or_false, false_or] at hy ⊢; try omega)).step h15 (by omega) (by intro y hy; simp only [List.mem_cons, List.not_mem_nil, or_false, false_or] at hy ⊢; try omega)).step c8 (by omega) (by intro y hy; simp only [List.mem_cons, List.not_mem_nil, or_false, false_or] at hy ⊢; try omega)).step c9 (by omega) (by intro y hy; simp only [List.mem_cons, List.not_mem_nil, or_false, false_or] at hy ⊢; try omega)).step c10 (by omega) (by intro y hy; simp only [List.mem_cons, List.not_mem_nil, or_false, false_or] at hy ⊢; try omega)).step0 c11 (by omega)).step c12 (by omega) (by intro y hy; simp only [List.mem_cons, List.not_mem_nil, or_false, false_or] at hy ⊢; try omega)).step h112 (by omega) (by intro y hy; simp only [List.mem_cons, List.not_mem_nil, or_false, false_or] at hy ⊢; try omega)).step0 c18 (by omega)).step0 c19 (by omega)).step0 c20 (by omega)).step0 c21 (by omega)).step c22 (by omega) (by intro y hy; simp only [List.mem_cons, List.not_mem_nil, or_false, false_or] at hy ⊢; try omega)).step0 c23 (by omega)).step0 c24 (by omega))⟩)
  have z43 := c23.size
  rcases repErr_ne tr3 ts (n1) with he | he
  rw [he]
  refine ops_run5 (l' := [(0, .pointer (some ⟨ba, 0, none⟩)), (15, .slice none 0 0), (16, .int .i64 2)]) (by kernel_rfl) ?_
  refine ops_nil (nx_seq (at_region ?_))
  refine ops_run7 (l' := [(116, .bool false)]) (by kernel_rfl) ?_
  refine ops_callp (by kernel_rfl) (by kernel_rfl) (by kernel_rfl) (mime_must (false) (110) w30) (fun v w' h => by cases h.1) ?_
  rintro ch w33 a ha ⟨q10, hch, hwq⟩
  rw [hwq]
  have h214 := h181.keep0 c23 (by omega)
  have h215 := h176.keep0 c23 (by omega)
  exact out_panic ha (.inr ⟨_, rfl, hch, ⟨no_same h116 h117 h118 htr2 htr3 htr4 h61 hbd (.inl h188), _, _, _, _, h214, h215⟩, ((((((((((((((((((((Chg.refl [be, bb] w).step0 c1 (by omega)).step c2 (by omega) (by intro y hy; simp only [List.mem_cons, List.not_mem_nil, or_false, false_or] at hy ⊢; try omega)).step0 c3 (by omega)).step c4 (by omega) (by intro y hy; simp only [List.mem_cons, List.not_mem_nil, or_false, false_or] at hy ⊢; try omega)).step c5 (by omega) (by intro y hy; simp only [List.mem_cons, List.not_mem_nil, or_false, false_or] at hy ⊢; try omega)).step c6 (by omega) (by intro y hy; simp only [List.mem_cons, List.not_mem_nil, or_false, false_or] at hy ⊢; try omega)).step h15 (by omega) (by intro y hy; simp only [List.mem_cons, List.not_mem_nil, or_false, false_or] at hy ⊢; try omega)).step c8 (by omega) (by intro y hy; simp only [List.mem_cons, List.not_mem_nil, or_false, false_or] at hy ⊢; try omega)).step c9 (by omega) (by intro y hy; simp only [List.mem_cons, List.not_mem_nil, or_false, false_or] at hy ⊢; try omega)).step c10 (by omega) (by intro y hy; simp only [List.mem_cons, List.not_mem_nil, or_false, false_or] at hy ⊢; try omega)).step0 c11 (by omega)).step c12 (by omega) (by intro y hy; simp only [List.mem_cons, List.not_mem_nil, or_false, false_or] at hy ⊢; try omega)).step h112 (by omega) (by intro y hy; simp only [List.mem_cons, List.not_mem_nil, or_false, false_or] at hy ⊢; try omega)).step0 c18 (by omega)).step0 c19 (by omega)).step0 c20 (by omega)).step0 c21 (by omega)).step c22 (by omega) (by intro y hy; simp only [List.mem_cons, List.not_mem_nil, or_false, false_or] at hy ⊢; try omega)).step0 c23 (by omega))⟩)
  rw [he]
  refine ops_run5 (l' := [(0, .pointer (some ⟨ba, 0, none⟩)), (15, .slice none 0 0), (16, .int .i64 110)]) (by kernel_rfl) ?_
  refine ops_nil (nx_seq (at_region ?_))
  refine ops_run7 (l' := [(116, .bool false)]) (by kernel_rfl) ?_
  refine ops_callp (by kernel_rfl) (by kernel_rfl) (by kernel_rfl) (mime_must (false) (110) w30) (fun v w' h => by cases h.1) ?_
  rintro ch w34 a ha ⟨q11, hch, hwq⟩
  rw [hwq]
  have h216 := h181.keep0 c23 (by omega)
  have h217 := h176.keep0 c23 (by omega)
  exact out_panic ha (.inr ⟨_, rfl, hch, ⟨no_same h116 h117 h118 htr2 htr3 htr4 h61 hbd (.inl h188), _, _, _, _, h216, h217⟩, ((((((((((((((((((((Chg.refl [be, bb] w).step0 c1 (by omega)).step c2 (by omega) (by intro y hy; simp only [List.mem_cons, List.not_mem_nil, or_false, false_or] at hy ⊢; try omega)).step0 c3 (by omega)).step c4 (by omega) (by intro y hy; simp only [List.mem_cons, List.not_mem_nil, or_false, false_or] at hy ⊢; try omega)).step c5 (by omega) (by intro y hy; simp only [List.mem_cons, List.not_mem_nil, or_false, false_or] at hy ⊢; try omega)).step c6 (by omega) (by intro y hy; simp only [List.mem_cons, List.not_mem_nil, or_false, false_or] at hy ⊢; try omega)).step h15 (by omega) (by intro y hy; simp only [List.mem_cons, List.not_mem_nil, or_false, false_or] at hy ⊢; try omega)).step c8 (by omega) (by intro y hy; simp only [List.mem_cons, List.not_mem_nil, or_false, false_or] at hy ⊢; try omega)).step c9 (by omega) (by intro y hy; simp only [List.mem_cons, List.not_mem_nil, or_false, false_or] at hy ⊢; try omega)).step c10 (by omega) (by intro y hy; simp only [List.mem_cons, List.not_mem_nil, or_false, false_or] at hy ⊢; try omega)).step0 c11 (by omega)).step c12 (by omega) (by intro y hy; simp only [List.mem_cons, List.not_mem_nil, or_false, false_or] at hy ⊢; try omega)).step h112 (by omega) (by intro y hy; simp only [List.mem_cons, List.not_mem_nil, or_false, false_or] at hy ⊢; try omega)).step0 c18 (by omega)).step0 c19 (by omega)).step0 c20 (by omega)).step0 c21 (by omega)).step c22 (by omega) (by intro y hy; simp only [List.mem_cons, List.not_mem_nil, or_false, false_or] at hy ⊢; try omega)).step0 c23 (by omega))⟩)
  rintro ch w27 a ha ⟨q8, hch, hwq⟩
  rw [hwq]
  replace q8 := of_decide_eq_false q8
  have h218 := h113.keep0 c18 (by omega)
  have h219 := h218.keep0 c19 (by omega)
  have h220 := h219.keep0 c20 (by omega)
  have h221 := hbb.keep0 c1 (by omega)
  have h222 := h221.keep1 c2 (by omega) (by omega)
  have h223 := h222.keep0 c3 (by omega)
  have h224 := h223.keep1 c4 (by omega) (by omega)
  have h225 := h224.keep1 c5 (by omega) (by omega)
  have h226 := h225.keep1 c6 (by omega) (by omega)
  have h227 := h226.keep1 h15 (by omega) (by omega)
  have h228 := h227.keep1 c8 (by omega) (by omega)
  have h229 := h228.keep1 c9 (by omega) (by omega)
  have h230 := h229.keep1 c10 (by omega) (by omega)
  have h231 := h230.keep0 c11 (by omega)
  have h232 := h231.keep1 c12 (by omega) (by omega)
  have h233 := h232.keep h112 (by omega) (by simp only [List.mem_cons, List.not_mem_nil, or_false, not_or]; omega)
  have h234 := h233.keep0 c18 (by omega)
  have h235 := h234.keep0 c19 (by omega)
  have h236 := h235.keep0 c20 (by omega)
  exact out_panic ha (.inr ⟨_, rfl, hch, ⟨no_room h116 h117 h118 htr2 htr3 htr4 h61 (by rw [show tailP tr2 = linesP [[], ([45, 45] ++ tr2) ++ [45, 45]] from rfl]; omega), _, _, _, _, h220, h236⟩, (((((((((((((((((Chg.refl [be, bb] w).step0 c1 (by omega)).step c2 (by omega) (by intro y hy; simp only [List.mem_cons, List.not_mem_nil, or_false, false_or] at hy ⊢; try omega)).step0 c3 (by omega)).step c4 (by omega) (by intro y hy; simp only [List.mem_cons, List.not_mem_nil, or_false, false_or] at hy ⊢; try omega)).step c5 (by omega) (by intro y hy; simp only [List.mem_cons, List.not_mem_nil, or_false, false_or] at hy ⊢; try omega)).step c6 (by omega) (by intro y hy; simp only [List.mem_cons, List.not_mem_nil, or_false, false_or] at hy ⊢; try omega)).step h15 (by omega) (by intro y hy; simp only [List.mem_cons, List.not_mem_nil, or_false, false_or] at hy ⊢; try omega)).step c8 (by omega) (by intro y hy; simp only [List.mem_cons, List.not_mem_nil, or_false, false_or] at hy ⊢; try omega)).step c9 (by omega) (by intro y hy; simp only [List.mem_cons, List.not_mem_nil, or_false, false_or] at hy ⊢; try omega)).step c10 (by omega) (by intro y hy; simp only [List.mem_cons, List.not_mem_nil, or_false, false_or] at hy ⊢; try omega)).step0 c11 (by omega)).step c12 (by omega) (by intro y hy; simp only [List.mem_cons, List.not_mem_nil, or_false, false_or] at hy ⊢; try omega)).step h112 (by omega) (by intro y hy; simp only [List.mem_cons, List.not_mem_nil, or_false, false_or] at hy ⊢; try omega)).step0 c18 (by omega)).step0 c19 (by omega)).step0 c20 (by omega))⟩)
  have z44 := c11.size
  refine ops_run5 (l' := [(0, .pointer (some ⟨ba, 0, none⟩)), (1, .pointer (some ⟨be, 0, none⟩)), (2, .pointer (some ⟨bb, 0, none⟩)), (5, .func (.func 51) #[] #[.pointer (some ⟨b2, 0, none⟩)]), (6, S tr2), (9, .int .i64 n9), (10, .iface T1 (p1))]) (by kernel_rfl) ?_
  refine ops_nil (nx_seq (at_seq (at_region ?_)))
  refine ops_run2 (l' := [(0, .pointer (some ⟨ba, 0, none⟩)), (1, .pointer (some ⟨be, 0, none⟩)), (2, .pointer (some ⟨bb, 0, none⟩)), (5, .func (.func 51) #[] #[.pointer (some ⟨b2, 0, none⟩)]), (6, S tr2), (9, .int .i64 n9), (56, .bool false)]) (by kernel_rfl) ?_
  refine ops_callp (by kernel_rfl) (by kernel_rfl) (by kernel_rfl) (mime_must (false) (110) w15) (fun v w' h => by cases h.1) ?_
  rintro ch w35 a ha ⟨q12, hch, hwq⟩
  rw [hwq]
  have h237 := h54.keep1 c10 (by omega) (by omega)
  have h238 := h237.keep0 c11 (by omega)
  have h239 := hbb.keep0 c1 (by omega)
  have h240 := h239.keep1 c2 (by omega) (by omega)
  have h241 := h240.keep0 c3 (by omega)
  have h242 := h241.keep1 c4 (by omega) (by omega)
  have h243 := h242.keep1 c5 (by omega) (by omega)
  have h244 := h243.keep1 c6 (by omega) (by omega)
  have h245 := h244.keep1 h15 (by omega) (by omega)
  have h246 := h245.keep1 c8 (by omega) (by omega)
  have h247 := h246.keep1 c9 (by omega) (by omega)
  have h248 := h247.keep1 c10 (by omega) (by omega)
  have h249 := h248.keep0 c11 (by omega)
  exact out_panic ha (.inr ⟨_, rfl, hch, ⟨no_when hl6 htr4 h61, _, _, _, _, h238, h249⟩, ((((((((((((Chg.refl [be, bb] w).step0 c1 (by omega)).step c2 (by omega) (by intro y hy; simp only [List.mem_cons, List.not_mem_nil, or_false, false_or] at hy ⊢; try omega)).step0 c3 (by omega)).step c4 (by omega) (by intro y hy; simp only [List.mem_cons, List.not_mem_nil, or_false, false_or] at hy ⊢; try omega)).step c5 (by omega) (by intro y hy; simp only [List.mem_cons, List.not_mem_nil, or_false, false_or] at hy ⊢; try omega)).step c6 (by omega) (by intro y hy; simp only [List.mem_cons, List.not_mem_nil, or_false, false_or] at hy ⊢; try omega)).step h15 (by omega) (by intro y hy; simp only [List.mem_cons, List.not_mem_nil, or_false, false_or] at hy ⊢; try omega)).step c8 (by omega) (by intro y hy; simp only [List.mem_cons, List.not_mem_nil, or_false, false_or] at hy ⊢; try omega)).step c9 (by omega) (by intro y hy; simp only [List.mem_cons, List.not_mem_nil, or_false, false_or] at hy ⊢; try omega)).step c10 (by omega) (by intro y hy; simp only [List.mem_cons, List.not_mem_nil, or_false, false_or] at hy ⊢; try omega)).step0 c11 (by omega))⟩)
  rintro ch w14 a ha ⟨q4, hch, hwq⟩
  rw [hwq]
  have h250 := h54.keep1 c10 (by omega) (by omega)
  have h251 := hbb.keep0 c1 (by omega)
  have h252 := h251.keep1 c2 (by omega) (by omega)
  have h253 := h252.keep0 c3 (by omega)
  have h254 := h253.keep1 c4 (by omega) (by omega)
  have h255 := h254.keep1 c5 (by omega) (by omega)
  have h256 := h255.keep1 c6 (by omega) (by omega)
  have h257 := h256.keep1 h15 (by omega) (by omega)
  have h258 := h257.keep1 c8 (by omega) (by omega)
  have h259 := h258.keep1 c9 (by omega) (by omega)
  have h260 := h259.keep1 c10 (by omega) (by omega)
  exact out_panic ha (.inr ⟨_, rfl, hch, ⟨no_field hl5 hc5 q4 (fun fr to at_ b k hw => ⟨by simp only [List.length_append, List.length_cons, List.length_nil, List.length_map]; omega, _, rfl⟩), _, _, _, _, h250, h260⟩, (((((((((((Chg.refl [be, bb] w).step0 c1 (by omega)).step c2 (by omega) (by intro y hy; simp only [List.mem_cons, List.not_mem_nil, or_false, false_or] at hy ⊢; try omega)).step0 c3 (by omega)).step c4 (by omega) (by intro y hy; simp only [List.mem_cons, List.not_mem_nil, or_false, false_or] at hy ⊢; try omega)).step c5 (by omega) (by intro y hy; simp only [List.mem_cons, List.not_mem_nil, or_false, false_or] at hy ⊢; try omega)).step c6 (by omega) (by intro y hy; simp only [List.mem_cons, List.not_mem_nil, or_false, false_or] at hy ⊢; try omega)).step h15 (by omega) (by intro y hy; simp only [List.mem_cons, List.not_mem_nil, or_false, false_or] at hy ⊢; try omega)).step c8 (by omega) (by intro y hy; simp only [List.mem_cons, List.not_mem_nil, or_false, false_or] at hy ⊢; try omega)).step c9 (by omega) (by intro y hy; simp only [List.mem_cons, List.not_mem_nil, or_false, false_or] at hy ⊢; try omega)).step c10 (by omega) (by intro y hy; simp only [List.mem_cons, List.not_mem_nil, or_false, false_or] at hy ⊢; try omega))⟩)
  rintro ch w13 a ha ⟨hch, ⟨x5, r5, hc5⟩, c10⟩
  have z45 := c10.size
  have h261 := h54.keep1 c10 (by omega) (by omega)
  have h262 := hbb.keep0 c1 (by omega)
  have h263 := h262.keep1 c2 (by omega) (by omega)
  have h264 := h263.keep0 c3 (by omega)
  have h265 := h264.keep1 c4 (by omega) (by omega)
  have h266 := h265.keep1 c5 (by omega) (by omega)
  have h267 := h266.keep1 c6 (by omega) (by omega)
  have h268 := h267.keep1 h15 (by omega) (by omega)
  have h269 := h268.keep1 c8 (by omega) (by omega)
  have h270 := h269.keep1 c9 (by omega) (by omega)
  have h271 := h270.keep1 c10 (by omega) (by omega)
  exact out_panic ha (.inr ⟨_, rfl, hch, ⟨lns_none hl5 hc5 (fun fr to at_ b k hw => (by simp only [List.length_append, List.length_cons, List.length_nil, List.length_map]; omega)), _, _, _, _, h261, h271⟩, (((((((((((Chg.refl [be, bb] w).step0 c1 (by omega)).step c2 (by omega) (by intro y hy; simp only [List.mem_cons, List.not_mem_nil, or_false, false_or] at hy ⊢; try omega)).step0 c3 (by omega)).step c4 (by omega) (by intro y hy; simp only [List.mem_cons, List.not_mem_nil, or_false, false_or] at hy ⊢; try omega)).step c5 (by omega) (by intro y hy; simp only [List.mem_cons, List.not_mem_nil, or_false, false_or] at hy ⊢; try omega)).step c6 (by omega) (by intro y hy; simp only [List.mem_cons, List.not_mem_nil, or_false, false_or] at hy ⊢; try omega)).step h15 (by omega) (by intro y hy; simp only [List.mem_cons, List.not_mem_nil, or_false, false_or] at hy ⊢; try omega)).step c8 (by omega) (by intro y hy; simp only [List.mem_cons, List.not_mem_nil, or_false, false_or] at hy ⊢; try omega)).step c9 (by omega) (by intro y hy; simp only [List.mem_cons, List.not_mem_nil, or_false, false_or] at hy ⊢; try omega)).step c10 (by omega) (by intro y hy; simp only [List.mem_cons, List.not_mem_nil, or_false, false_or] at hy ⊢; try omega))⟩)
  rintro ch w12 a ha ⟨q3, hch, hwq⟩
  rw [hwq]
  have h272 := hbb.keep0 c1 (by omega)
  have h273 := h272.keep1 c2 (by omega) (by omega)
  have h274 := h273.keep0 c3 (by omega)
  have h275 := h274.keep1 c4 (by omega) (by omega)
  have h276 := h275.keep1 c5 (by omega) (by omega)
  have h277 := h276.keep1 c6 (by omega) (by omega)
  have h278 := h277.keep1 h15 (by omega) (by omega)
  have h279 := h278.keep1 c8 (by omega) (by omega)
  have h280 := h279.keep1 c9 (by omega) (by omega)
  exact out_panic ha (.inr ⟨_, rfl, hch, ⟨no_field hl4 hc4 q3 (fun fr to at_ b k hw => ⟨by simp only [List.length_append, List.length_cons, List.length_nil, List.length_map]; omega, _, rfl⟩), _, _, _, _, h54, h280⟩, ((((((((((Chg.refl [be, bb] w).step0 c1 (by omega)).step c2 (by omega) (by intro y hy; simp only [List.mem_cons, List.not_mem_nil, or_false, false_or] at hy ⊢; try omega)).step0 c3 (by omega)).step c4 (by omega) (by intro y hy; simp only [List.mem_cons, List.not_mem_nil, or_false, false_or] at hy ⊢; try omega)).step c5 (by omega) (by intro y hy; simp only [List.mem_cons, List.not_mem_nil, or_false, false_or] at hy ⊢; try omega)).step c6 (by omega) (by intro y hy; simp only [List.mem_cons, List.not_mem_nil, or_false, false_or] at hy ⊢; try omega)).step h15 (by omega) (by intro y hy; simp only [List.mem_cons, List.not_mem_nil, or_false, false_or] at hy ⊢; try omega)).step c8 (by omega) (by intro y hy; simp only [List.mem_cons, List.not_mem_nil, or_false, false_or] at hy ⊢; try omega)).step c9 (by omega) (by intro y hy; simp only [List.mem_cons, List.not_mem_nil, or_false, false_or] at hy ⊢; try omega))⟩)
  rintro ch w10 a ha ⟨hch, ⟨x4, r4, hc4⟩, c8⟩
  have z46 := c8.size
  have h281 := hbe.keep0 c1 (by omega)
  have h282 := h281.keep1 c2 (by omega) (by omega)
  have h283 := h282.keep0 c3 (by omega)
  have h284 := h283.keep1 c4 (by omega) (by omega)
  have h285 := h284.keep1 c5 (by omega) (by omega)
  have h286 := h285.keep1 c6 (by omega) (by omega)
  have h287 := h286.keep1 h15 (by omega) (by omega)
  have h288 := h287.keep1 c8 (by omega) (by omega)
  have h289 := hbb.keep0 c1 (by omega)
  have h290 := h289.keep1 c2 (by omega) (by omega)
  have h291 := h290.keep0 c3 (by omega)
  have h292 := h291.keep1 c4 (by omega) (by omega)
  have h293 := h292.keep1 c5 (by omega) (by omega)
  have h294 := h293.keep1 c6 (by omega) (by omega)
  have h295 := h294.keep1 h15 (by omega) (by omega)
  have h296 := h295.keep1 c8 (by omega) (by omega)
  exact out_panic ha (.inr ⟨_, rfl, hch, ⟨lns_none hl4 hc4 (fun fr to at_ b k hw => (by simp only [List.length_append, List.length_cons, List.length_nil, List.length_map]; omega)), _, _, _, _, h288, h296⟩, (((((((((Chg.refl [be, bb] w).step0 c1 (by omega)).step c2 (by omega) (by intro y hy; simp only [List.mem_cons, List.not_mem_nil, or_false, false_or] at hy ⊢; try omega)).step0 c3 (by omega)).step c4 (by omega) (by intro y hy; simp only [List.mem_cons, List.not_mem_nil, or_false, false_or] at hy ⊢; try omega)).step c5 (by omega) (by intro y hy; simp only [List.mem_cons, List.not_mem_nil, or_false, false_or] at hy ⊢; try omega)).step c6 (by omega) (by intro y hy; simp only [List.mem_cons, List.not_mem_nil, or_false, false_or] at hy ⊢; try omega)).step h15 (by omega) (by intro y hy; simp only [List.mem_cons, List.not_mem_nil, or_false, false_or] at hy ⊢; try omega)).step c8 (by omega) (by intro y hy; simp only [List.mem_cons, List.not_mem_nil, or_false, false_or] at hy ⊢; try omega))⟩)
  rintro ch w7 a ha ⟨q1, hch, hwq⟩
  rw [hwq]
  have h297 := hbe.keep0 c1 (by omega)
  have h298 := h297.keep1 c2 (by omega) (by omega)
  have h299 := h298.keep0 c3 (by omega)
  have h300 := h299.keep1 c4 (by omega) (by omega)
  have h301 := h300.keep1 c5 (by omega) (by omega)
  have h302 := h301.keep1 c6 (by omega) (by omega)
  have h303 := hbb.keep0 c1 (by omega)
  have h304 := h303.keep1 c2 (by omega) (by omega)
  have h305 := h304.keep0 c3 (by omega)
  have h306 := h305.keep1 c4 (by omega) (by omega)
  have h307 := h306.keep1 c5 (by omega) (by omega)
  have h308 := h307.keep1 c6 (by omega) (by omega)
  exact out_panic ha (.inr ⟨_, rfl, hch, ⟨no_field hl1 hc2 q1 (fun fr to at_ b k hw => ⟨by simp only [List.length_append, List.length_cons, List.length_nil, List.length_map]; omega, _, rfl⟩), _, _, _, _, h302, h308⟩, (((((((Chg.refl [be, bb] w).step0 c1 (by omega)).step c2 (by omega) (by intro y hy; simp only [List.mem_cons, List.not_mem_nil, or_false, false_or] at hy ⊢; try omega)).step0 c3 (by omega)).step c4 (by omega) (by intro y hy; simp only [List.mem_cons, List.not_mem_nil, or_false, false_or] at hy ⊢; try omega)).step c5 (by omega) (by intro y hy; simp only [List.mem_cons, List.not_mem_nil, or_false, false_or] at hy ⊢; try omega)).step c6 (by omega) (by intro y hy; simp only [List.mem_cons, List.not_mem_nil, or_false, false_or] at hy ⊢; try omega))⟩)
  rintro ch w6 a ha ⟨hch, ⟨x2, r2, hc2⟩, c6⟩
  have z47 := c6.size
  have h309 := hbe.keep0 c1 (by omega)
  have h310 := h309.keep1 c2 (by omega) (by omega)
  have h311 := h310.keep0 c3 (by omega)
  have h312 := h311.keep1 c4 (by omega) (by omega)
  have h313 := h312.keep1 c5 (by omega) (by omega)
  have h314 := h313.keep1 c6 (by omega) (by omega)
  have h315 := hbb.keep0 c1 (by omega)
  have h316 := h315.keep1 c2 (by omega) (by omega)
  have h317 := h316.keep0 c3 (by omega)
  have h318 := h317.keep1 c4 (by omega) (by omega)
  have h319 := h318.keep1 c5 (by omega) (by omega)
  have h320 := h319.keep1 c6 (by omega) (by omega)
  exact out_panic ha (.inr ⟨_, rfl, hch, ⟨lns_none hl1 hc2 (fun fr to at_ b k hw => (by simp only [List.length_append, List.length_cons, List.length_nil, List.length_map]; omega)), _, _, _, _, h314, h320⟩, (((((((Chg.refl [be, bb] w).step0 c1 (by omega)).step c2 (by omega) (by intro y hy; simp only [List.mem_cons, List.not_mem_nil, or_false, false_or] at hy ⊢; try omega)).step0 c3 (by omega)).step c4 (by omega) (by intro y hy; simp only [List.mem_cons, List.not_mem_nil, or_false, false_or] at hy ⊢; try omega)).step c5 (by omega) (by intro y hy; simp only [List.mem_cons, List.not_mem_nil, or_false, false_or] at hy ⊢; try omega)).step c6 (by omega) (by intro y hy; simp only [List.mem_cons, List.not_mem_nil, or_false, false_or] at hy ⊢; try omega))⟩)
  rintro ch w5 a ha ⟨hch, ⟨x1, r1, hc1⟩, c5⟩
  have z48 := c5.size
  have h321 := hbe.keep0 c1 (by omega)
  have h322 := h321.keep1 c2 (by omega) (by omega)
  have h323 := h322.keep0 c3 (by omega)
  have h324 := h323.keep1 c4 (by omega) (by omega)
  have h325 := h324.keep1 c5 (by omega) (by omega)
  have h326 := hbb.keep0 c1 (by omega)
  have h327 := h326.keep1 c2 (by omega) (by omega)
  have h328 := h327.keep0 c3 (by omega)
  have h329 := h328.keep1 c4 (by omega) (by omega)
  have h330 := h329.keep1 c5 (by omega) (by omega)
  exact out_panic ha (.inr ⟨_, rfl, hch, ⟨lns_none hl0 hc1 (fun fr to at_ b k hw => (by simp only [List.length_append, List.length_cons, List.length_nil, List.length_map]; omega)), _, _, _, _, h325, h330⟩, ((((((Chg.refl [be, bb] w).step0 c1 (by omega)).step c2 (by omega) (by intro y hy; simp only [List.mem_cons, List.not_mem_nil, or_false, false_or] at hy ⊢; try omega)).step0 c3 (by omega)).step c4 (by omega) (by intro y hy; simp only [List.mem_cons, List.not_mem_nil, or_false, false_or] at hy ⊢; try omega)).step c5 (by omega) (by intro y hy; simp only [List.mem_cons, List.not_mem_nil, or_false, false_or] at hy ⊢; try omega))⟩)

end Go.Proofs.YtnjkdnbabogcjaaDoor
