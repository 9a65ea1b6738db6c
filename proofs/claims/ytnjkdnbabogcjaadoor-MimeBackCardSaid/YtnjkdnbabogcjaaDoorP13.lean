/- A walk, printed by a program of my own (wip/gen/walk.py) from a script of mine. -/
import Derived.Test.YtnjkdnbabogcjaaDoorProg
import Derived.Test.YtnjkdnbabogcjaaDoorL0
import Derived.Test.YtnjkdnbabogcjaaDoorQ7
import Derived.Test.YtnjkdnbabogcjaaDoorP6
import Derived.Test.YtnjkdnbabogcjaaDoorK14
set_option maxHeartbeats 4000000
set_option linter.unusedVariables false
set_option linter.unusedSimpArgs false
set_option maxRecDepth 100000
namespace Go.Proofs.YtnjkdnbabogcjaaDoor
open Go Go.RowKit Go.Kw

set_option linter.unusedVariables false
theorem copyCheck_ok {w : World} {b : Nat} {p v : Value} (hb : Blk w b [p, v] 134) (hp : p = .pointer none ∨ p = .pointer (some ⟨b, 0, none⟩)) : Rt Tryd.prog 138 #[.pointer (some ⟨b, 0, none⟩)] w fun u w' => u = .tuple #[] ∧ Blk w' b [.pointer (some ⟨b, 0, none⟩), v] 134 ∧ Chg [b] w.heap.size w w' := by
  rcases hp with rfl | rfl
  have hbl := hb.lt
  refine enter (n := 20) (args := [.pointer (some ⟨b, 0, none⟩)]) Tryd.func138 rfl rfl (Nat.le_of_ble_eq_true (by kernel_rfl)) ?_
  refine at_seq (at_region ?_)
  refine ops_run3 (l' := [(0, .pointer (some ⟨b, 0, none⟩)), (4, .pointer (some ⟨b, 0, none⟩))]) (by kernel_rfl) ?_
  refine ops_loadB (i := 0) (v := .pointer none) (by kernel_rfl) (by kernel_rfl) (by kernel_rfl) (by kernel_rfl) hb (by kernel_rfl) ?_
  refine ops_run1 (l' := [(0, .pointer (some ⟨b, 0, none⟩)), (6, .bool true)]) (by kernel_rfl) ?_
  refine ops_nil (nx_seq ?_)
  refine at_ift (by kernel_rfl) ?_
  refine at_region ?_
  refine ops_run2 (l' := [(7, .pointer (some ⟨b, 0, none⟩)), (8, .pointer (some ⟨b, 0, none⟩))]) (by kernel_rfl) ?_
  refine ops_toUnsafe (t := 134) (by kernel_rfl) (by kernel_rfl) (by kernel_rfl) (by kernel_rfl) (by kernel_rfl) (j := (Tryd.prog.info? 134).get (by kernel_rfl)) (by kernel_rfl) (by decide +kernel) hb (by simp) ?_
  refine ops_noesc (v := .pointer (some ⟨b, 0, none⟩)) (by kernel_rfl) (by kernel_rfl) (by kernel_rfl) Tryd.func169 rfl rfl rfl rfl ?_
  refine ops_fromUnsafe (u := 134) (by kernel_rfl) (by kernel_rfl) (by kernel_rfl) (by kernel_rfl) (by kernel_rfl) (j := (Tryd.prog.info? 134).get (by kernel_rfl)) (by kernel_rfl) hb (by kernel_rfl) ?_
  refine ops_run2 (l' := [(11, .pointer (some ⟨b, 0, none⟩)), (13, .pointer (some ⟨b, 0, none⟩))]) (by kernel_rfl) ?_
  refine ops_store (i := 0) (v := .pointer (some ⟨b, 0, none⟩)) [.pointer (some ⟨b, 0, none⟩), v] (by kernel_rfl) (by kernel_rfl) (by kernel_rfl) (by kernel_rfl) (by kernel_rfl) (by kernel_rfl) hb (by kernel_rfl) (by kernel_rfl) (fun w1 h1 c1 z1 => ?_)
  have z2 := c1.size
  refine ops_nil ?_
  refine nx_ret (rs := []) (vs := []) rfl (by kernel_rfl) ?_
  exact ⟨_, rfl, rfl, h1, ((Chg.refl [b] w).step c1 (by omega) (by intro y hy; simp only [List.mem_cons, List.not_mem_nil, or_false, false_or] at hy ⊢; try omega))⟩
  have hbl := hb.lt
  refine enter (n := 20) (args := [.pointer (some ⟨b, 0, none⟩)]) Tryd.func138 rfl rfl (Nat.le_of_ble_eq_true (by kernel_rfl)) ?_
  refine at_seq (at_region ?_)
  refine ops_run3 (l' := [(0, .pointer (some ⟨b, 0, none⟩)), (4, .pointer (some ⟨b, 0, none⟩))]) (by kernel_rfl) ?_
  refine ops_loadB (i := 0) (v := .pointer (some ⟨b, 0, none⟩)) (by kernel_rfl) (by kernel_rfl) (by kernel_rfl) (by kernel_rfl) hb (by kernel_rfl) ?_
  refine ops_run1 (l' := [(0, .pointer (some ⟨b, 0, none⟩)), (6, .bool false)]) (by kernel_rfl) ?_
  refine ops_nil (nx_seq ?_)
  refine at_iff (by kernel_rfl) ?_
  refine at_seq (at_region ?_)
  refine ops_run3 (l' := [(0, .pointer (some ⟨b, 0, none⟩)), (16, .pointer (some ⟨b, 0, none⟩))]) (by kernel_rfl) ?_
  refine ops_loadB (i := 0) (v := .pointer (some ⟨b, 0, none⟩)) (by kernel_rfl) (by kernel_rfl) (by kernel_rfl) (by kernel_rfl) hb (by kernel_rfl) ?_
  refine ops_run1 (l' := [(17, .pointer (some ⟨b, 0, none⟩)), (18, .pointer (some ⟨b, 0, none⟩))]) (by kernel_rfl) ?_
  refine ops_ptrNeF (a := ⟨b, 0, none⟩) (el := 134) (by kernel_rfl) (by kernel_rfl) (by kernel_rfl) (by kernel_rfl) (by kernel_rfl) (j := (Tryd.prog.info? 134).get (by kernel_rfl)) (by kernel_rfl) (by decide +kernel) ?_
  refine ops_nil (nx_seq ?_)
  refine at_iff (by kernel_rfl) ?_
  refine at_skip ?_
  refine nx_ret (rs := []) (vs := []) rfl (by kernel_rfl) ?_
  exact ⟨_, rfl, rfl, hb, (Chg.refl [b] w)⟩
theorem writeString_ok {w : World} {b : Nat} {p v : Value} (hb : Blk w b [p, v] 134) (hp : p = .pointer none ∨ p = .pointer (some ⟨b, 0, none⟩)) {lo : Nat} {l : Bytes} (hv : OwnR w lo 5 v l) (x : Bytes) (hlo : b < lo) (hl : lo ≤ w.heap.size) (hlen : l.length + x.length ≤ 140737488355328) : Rt Tryd.prog 101 #[.pointer (some ⟨b, 0, none⟩), S x] w fun u w' => ∃ v', u = .tuple #[.int .i64 x.length, .nilIface] ∧ Blk w' b [.pointer (some ⟨b, 0, none⟩), v'] 134 ∧ OwnR w' lo 5 v' (l ++ x) ∧ Chg [b] lo w w' := by
  have hbl := hb.lt
  refine enter (n := 19) (args := [.pointer (some ⟨b, 0, none⟩), S x]) Tryd.func101 rfl rfl (Nat.le_of_ble_eq_true (by kernel_rfl)) ?_
  refine at_seq (at_region ?_)
  refine ops_run2 (l' := [(0, .pointer (some ⟨b, 0, none⟩)), (1, S x), (4, .int .i64 0), (5, .nilIface)]) (by kernel_rfl) ?_
  refine ops_nil (nx_seq (at_seq (at_region ?_)))
  refine ops_run1 (l' := [(0, .pointer (some ⟨b, 0, none⟩)), (1, S x), (4, .int .i64 0), (5, .nilIface), (6, .pointer (some ⟨b, 0, none⟩))]) (by kernel_rfl) ?_
  refine ops_callr (by kernel_rfl) (by kernel_rfl) (by kernel_rfl) (copyCheck_ok hb hp) ?_
  rintro _ w1 ⟨rfl, h1, c1⟩
  have z1 := c1.size
  have hv2 := hv.keep1 c1 hlo
  refine ops_nil (nx_seq (at_seq (at_region ?_)))
  refine ops_run4 (l' := [(1, S x), (4, .int .i64 0), (5, .nilIface), (8, .pointer (some ⟨b, 0, none⟩)), (11, .pointer (some ⟨b, 1, none⟩))]) (by kernel_rfl) ?_
  refine ops_loadB (i := 1) (v := v) (by kernel_rfl) (by kernel_rfl) (by kernel_rfl) (by kernel_rfl) h1 (by kernel_rfl) ?_
  refine ops_run1 (l' := [(1, S x), (4, .int .i64 0), (5, .nilIface), (8, .pointer (some ⟨b, 0, none⟩)), (12, v), (13, S x)]) (by kernel_rfl) ?_
  refine ops_appendRS (e := 5) (l1 := l) (l2 := x) (by kernel_rfl) (by kernel_rfl) (by kernel_rfl) (by kernel_rfl) (by kernel_rfl) (by kernel_rfl) (by kernel_rfl) (by kernel_rfl) hv2 (by omega) (by first | omega | (simp only [List.length_append, List.length_cons, List.length_nil, List.length_take, List.length_drop, List.length_map]; omega)) (fun v1 w2 h2 c2 => ?_)
  have z2 := c2.size
  refine ops_run2 (l' := [(1, S x), (4, .int .i64 0), (5, .nilIface), (14, v1), (16, .pointer (some ⟨b, 1, none⟩))]) (by kernel_rfl) ?_
  have h3 := h1.keep0 c2 (by omega)
  refine ops_store (i := 1) (v := v1) [.pointer (some ⟨b, 0, none⟩), v1] (by kernel_rfl) (by kernel_rfl) (by kernel_rfl) (by kernel_rfl) ((h2.own (by omega)).sl).one (by kernel_rfl) h3 (by kernel_rfl) (by kernel_rfl) (fun w3 h4 c4 z3 => ?_)
  have z4 := c4.size
  have hv3 := h2.keep1 c4 hlo
  refine ops_nil (nx_seq (at_seq (at_region ?_)))
  refine ops_run4 (l' := [(4, .int .i64 ((x.length : Int))), (5, .nilIface)]) (by kernel_rfl) ?_
  refine ops_nil (nx_seq ?_)
  refine at_ret (rs := [.tmp 4, .tmp 5]) (vs := [.int .i64 ((x.length : Int)), .nilIface]) rfl (by kernel_rfl) ?_
  exact ⟨_, rfl, _, rfl, h4, hv3, (((((Chg.refl [b] w).to (B' := lo) (r' := [b]) (by omega) (by simp)).step c1 (by omega) (by intro y hy; simp only [List.mem_cons, List.not_mem_nil, or_false, false_or] at hy ⊢; try omega)).step0 c2 (by omega)).step c4 (by omega) (by intro y hy; simp only [List.mem_cons, List.not_mem_nil, or_false, false_or] at hy ⊢; try omega))⟩
theorem builderString_ok {w : World} {b : Nat} {p v : Value} (hb : Blk w b [p, v] 134) (hp : p = .pointer none ∨ p = .pointer (some ⟨b, 0, none⟩)) {lo : Nat} {l : Bytes} (hv : OwnR w lo 5 v l) (hlo : b < lo ∨ v = .slice none 0 0) : Rt Tryd.prog 102 #[.pointer (some ⟨b, 0, none⟩)] w fun u w' => u = S l ∧ Chg [] b w w' := by
  have hbl := hb.lt
  have hv0 : w.ownsRow b 5 1 v l.length (bcells l) ∧ v.ownBlock ≠ some b := by
    rcases hlo with hlo | rfl
    · exact ⟨OwnR.down hv (by omega), fun e => by have := (World.ownsRow.lt hv b e).1; omega⟩
    · refine ⟨⟨hv.1, .inl ⟨rfl, ?_⟩⟩, by simp [Value.ownBlock]⟩
      rcases hv.2 with ⟨_, h⟩ | ⟨g, cap, cur, h, _⟩
      · exact h
      · cases h
  have hi : Lib.IsBuilder 134 5 b b (Lib.byteCells l) w := by
    have e : (Lib.byteCells l).length = l.length := by simp [Lib.byteCells]
    have h : ∀ p, Blk w b [p, v] 134 → Lib.BuilderAt 134 5 b b p (Lib.byteCells l) w := fun p hb => ⟨Nat.le_refl _, v, hb, by rw [e]; exact hv0.1, hv0.2⟩
    rcases hp with rfl | rfl
    · exact .inl (h _ hb)
    · exact .inr (h _ hb)
  exact (Tryd.Builder_String_any b b l w hi (by omega)).mono fun e w' ⟨h, hw⟩ => ⟨_, h, rfl, Chg.of_below hw (by omega)⟩
theorem mime_must (b : Bool) (e : Int) (w : World) : Rp Tryd.prog 50 #[.bool b, .int .i64 e] w (fun v w' => b = true ∧ v = .tuple #[] ∧ w' = w) (fun ch w' => b = false ∧ ch = thrownE 130 e ∧ w' = w) := by
  refine enter (n := 9) (args := [.bool b, .int .i64 e]) Tryd.func50 rfl rfl (Nat.le_of_ble_eq_true (by kernel_rfl)) ?_
  refine at_seq (at_region ?_)
  refine ops_run2 (l' := [(1, .int .i64 e), (5, .bool (!b))]) (by kernel_rfl) ?_
  refine ops_nil (nx_seq ?_)
  refine at_if (!b) (by kernel_rfl) (fun q1 => ?_) (fun q1 => ?_)
  refine at_region ?_
  refine ops_run3 (l' := [(8, .iface 130 (.agg #[.int .i64 e]))]) (by kernel_rfl) ?_
  refine ops_panic0 (v := .iface 130 (.agg #[.int .i64 e])) (by kernel_rfl) (by kernel_rfl) (by kernel_rfl) (fun a1 h1 => out_panic h1 ?_)
  exact .inr ⟨_, rfl, by cases b <;> simp_all, rfl, rfl⟩
  refine at_skip ?_
  refine nx_ret (rs := []) (vs := []) rfl (by kernel_rfl) ?_
  exact .inl ⟨_, rfl, by cases b <;> simp_all, rfl, rfl⟩
theorem mime_idle (b : Nat) (w : World) : CallsDIn (Fw none) (0 - 1) Tryd.prog 98 [Value.pointer (some ⟨b, 0, none⟩)].toArray .returning w fun e u' w' => e = .returned (.tuple #[]) ∧ u' = .returning ∧ w' = w := by
  refine enterS (n := 17) (args := [.pointer (some ⟨b, 0, none⟩)]) (rv := .nilIface) (u' := .returning) (t4 := 4) (t1 := 1) Tryd.func98 rfl rfl (Nat.le_of_ble_eq_true (by kernel_rfl)) (by decide) (by decide) (fun c0 cs hu => .inr ⟨by simp [recoverD, hu], rfl, rfl⟩) (fun c0 cs => ?_)
  refine at_seq (at_region ?_)
  refine ops_run2 (l' := [(0, .pointer (some ⟨b, 0, none⟩)), (1, .nilIface), (6, .bool false)]) (by kernel_rfl) ?_
  refine ops_nil (nx_seq ?_)
  refine at_iff (by kernel_rfl) ?_
  refine at_skip ?_
  exact nx_endS rfl ⟨rfl, rfl, rfl⟩
theorem mime_back (b : Nat) (x : Int) (w : World) (hb : Blk w b [.int .i64 0] 29) : CallsDIn (Fw none) (0 - 1) Tryd.prog 98 [Value.pointer (some ⟨b, 0, none⟩)].toArray (.panicking (thrownE 130 x)) w fun e u' w' => e = .returned (.tuple #[]) ∧ settle u' = .returning ∧ Blk w' b [.int .i64 x] 29 ∧ Chg [b] w.heap.size w w' := by
  have hbl := hb.lt
  refine enterS (n := 17) (args := [.pointer (some ⟨b, 0, none⟩)]) (rv := .iface 130 (.agg #[.int .i64 x])) (u' := .panicking [{ v := .iface 130 (.agg #[.int .i64 x]), recovered := true }]) (t4 := 4) (t1 := 1) Tryd.func98 rfl rfl (Nat.le_of_ble_eq_true (by kernel_rfl)) (by decide) (by decide) (fun c0 cs hu => .inl (by simp [recoverD, hu])) (fun c0 cs => ?_)
  refine at_seq (at_region ?_)
  refine ops_run2 (l' := [(0, .pointer (some ⟨b, 0, none⟩)), (1, .iface 130 (.agg #[.int .i64 x])), (6, .bool true)]) (by kernel_rfl) ?_
  refine ops_nil (nx_seq ?_)
  refine at_ift (by kernel_rfl) ?_
  refine at_seq (at_region ?_)
  refine ops_run5 (l' := [(0, .pointer (some ⟨b, 0, none⟩)), (1, .iface 130 (.agg #[.int .i64 x])), (10, .agg #[.int .i64 x]), (11, .bool true)]) (by kernel_rfl) ?_
  refine ops_alloc (z := .agg #[.int .i64 0]) (cs := [.int .i64 0]) (by kernel_rfl) (by kernel_rfl) (by kernel_rfl) (by kernel_rfl) (fun b1 w1 e1 h1 c1 z1 => ?_)
  have z2 := c1.size
  refine ops_storeS (i := 0) (vs := [.int .i64 x]) [.int .i64 x] (by kernel_rfl) (by kernel_rfl) (by kernel_rfl) (by kernel_rfl) (by kernel_rfl) (by kernel_rfl) h1 (by kernel_rfl) (by kernel_rfl) (fun w2 h2 c2 z3 => ?_)
  have z4 := c2.size
  refine ops_run1 (l' := [(0, .pointer (some ⟨b, 0, none⟩)), (1, .iface 130 (.agg #[.int .i64 x])), (2, .pointer (some ⟨b1, 0, none⟩)), (3, .bool true)]) (by kernel_rfl) ?_
  refine ops_nil (nx_seq (at_seq (at_seq (at_region ?_))))
  refine ops_run2 (l' := [(0, .pointer (some ⟨b, 0, none⟩)), (1, .iface 130 (.agg #[.int .i64 x])), (2, .pointer (some ⟨b1, 0, none⟩)), (13, .bool false)]) (by kernel_rfl) ?_
  refine ops_nil (nx_seq ?_)
  refine at_iff (by kernel_rfl) ?_
  refine at_skip (nx_seq (at_region ?_))
  refine ops_run1 (l' := [(0, .pointer (some ⟨b, 0, none⟩)), (15, .pointer (some ⟨b1, 0, none⟩))]) (by kernel_rfl) ?_
  refine ops_loadB (i := 0) (v := .int .i64 x) (by kernel_rfl) (by kernel_rfl) (by kernel_rfl) (by kernel_rfl) h2 (by kernel_rfl) ?_
  have h3 := hb.keep0 c1 (by omega)
  have h4 := h3.keep1 c2 (by omega) (by omega)
  refine ops_store (i := 0) (v := .int .i64 x) [.int .i64 x] (by kernel_rfl) (by kernel_rfl) (by kernel_rfl) (by kernel_rfl) (by kernel_rfl) (by kernel_rfl) h4 (by kernel_rfl) (by kernel_rfl) (fun w3 h5 c3 z5 => ?_)
  have z6 := c3.size
  refine ops_nil ?_
  exact nx_endS rfl ⟨rfl, rfl, h5, ((((Chg.refl [b] w).step0 c1 (by omega)).step c2 (by omega) (by intro y hy; simp only [List.mem_cons, List.not_mem_nil, or_false, false_or] at hy ⊢; try omega)).step c3 (by omega) (by intro y hy; simp only [List.mem_cons, List.not_mem_nil, or_false, false_or] at hy ⊢; try omega))⟩
theorem mime_caught (g : FuncId) (cap : List Value) (eg : ∀ args w, (callFunc g args).run Tryd.prog w = .ok (.enter g args) w) (R : World → Prop) (Q : Int → World → Prop) (r : List Nat) (w : World) (hr : ∀ x, x ∈ r → x ≠ w.heap.size)
    (hc : ∀ w1, Chg [] w.heap.size w w1 → w1.heap.size = w.heap.size + 1 → Rp Tryd.prog g cap.toArray w1 (fun _ w2 => R w2 ∧ Chg r w1.heap.size w1 w2) (fun ch w2 => ∃ x, ch = thrownE 130 x ∧ Q x w2 ∧ Chg r w1.heap.size w1 w2)) :
    Rt Tryd.prog 46 #[.func (.func g) #[] cap.toArray] w fun v w3 => ∃ w1 w2, Chg [] w.heap.size w w1 ∧ Chg r w1.heap.size w1 w2 ∧ Chg [w.heap.size] w2.heap.size w2 w3 ∧ ((v = .int .i64 0 ∧ R w2) ∨ ∃ x, v = .int .i64 x ∧ Q x w2) := by
  refine enterM (n := 6) (args := [(.func (.func g) #[] cap.toArray)]) Tryd.func46 rfl rfl (Nat.le_of_ble_eq_true (by kernel_rfl)) ?_
  refine at_seq (at_region ?_)
  refine ops_alloc (z := .int .i64 0) (cs := [.int .i64 0]) (by kernel_rfl) (by kernel_rfl) (by kernel_rfl) (by kernel_rfl) (fun b1 w1 e1 h1 c1 z1 => ?_)
  have z2 := c1.size
  refine ops_nil (nx_seq (at_seq (at_region ?_)))
  refine ops_run1 (l' := [(0, (.func (.func g) #[] cap.toArray)), (2, .pointer (some ⟨b1, 0, none⟩)), (3, .func (.func 98) #[] #[.pointer (some ⟨b1, 0, none⟩)])]) (by kernel_rfl) ?_
  refine ops_defer (f := 98) (cap := [.pointer (some ⟨b1, 0, none⟩)]) (by kernel_rfl) (by kernel_rfl) (by kernel_rfl) rfl ?_
  refine ops_nil (nx_seq (at_seq (at_region ?_)))
  refine ops_run1 (l' := [(2, .pointer (some ⟨b1, 0, none⟩)), (4, (.func (.func g) #[] cap.toArray))]) (by kernel_rfl) ?_
  refine ops_callp (by kernel_rfl) (by kernel_rfl) ?_ (hc w1 c1 (by omega)) ?_ (fun ch wR a ha hq => ?_)
  exact run_callv (by kernel_rfl) eg
  rintro v wR ⟨hR, cR⟩
  have hb2 := h1.keep cR (by omega) (fun hm => hr _ hm (by omega))
  have zz := cR.size
  have hbl := hb2.lt
  refine ops_nil (nx_seq (at_seq (at_region ?_)))
  refine ops_store (i := 0) (v := .int .i64 0) [.int .i64 0] (by kernel_rfl) (by kernel_rfl) (by kernel_rfl) (by kernel_rfl) (by kernel_rfl) (by kernel_rfl) hb2 (by kernel_rfl) (by kernel_rfl) (fun w2 h2 c2 z3 => ?_)
  have z4 := c2.size
  refine ops_nil (nx_seq ?_)
  refine at_retD (rs := [.cell 2 29]) (by kernel_rfl) rfl ?_
  refine (mime_idle b1 w2).mono ?_
  rintro e u' w4 ⟨rfl, rfl, rfl⟩
  refine ⟨_, rfl, rfl, [.int .i64 0], ResV.cell (by kernel_rfl) h2 (by kernel_rfl) ResV.nil, ?_⟩
  exact ⟨_, rfl, _, _, c1, cR, e1 ▸ ((Chg.refl [b1] wR).step c2 (by omega) (by intro y hy; simp only [List.mem_cons, List.not_mem_nil, or_false, false_or] at hy ⊢; try omega)), .inl ⟨rfl, hR⟩⟩
  obtain ⟨x, rfl, hQ, cR⟩ := hq
  have hb2 := h1.keep cR (by omega) (fun hm => hr _ hm (by omega))
  refine out_panicD (rs := [.cell 2 29]) ha (by kernel_rfl) rfl ?_
  refine (mime_back b1 x wR hb2).mono ?_
  rintro e u' w3 ⟨rfl, hs, hb3, c3⟩
  have zz := cR.size
  refine ⟨_, rfl, hs, [.int .i64 x], ?_, ?_⟩
  · exact ResV.cell (by kernel_rfl) hb3 (by kernel_rfl) ResV.nil
  · exact ⟨_, rfl, _, _, c1, cR, e1 ▸ c3, .inr ⟨_, rfl, hQ⟩⟩
theorem lines_ok {w : World} {lo hi : Nat} {v : Value} {ls : List Bytes} (hv : Ss w lo hi v ls) (hlen : (linesP ls).length ≤ 1000000000) : Pu Tryd.prog 54 #[v] w (S (linesP ls)) := by
  have hhi := hv.hi_le
  have hln := hv.len_le
  refine enter (n := 17) (args := [v]) Tryd.func54 rfl rfl (Nat.le_of_ble_eq_true (by kernel_rfl)) ?_
  refine at_seq (at_region ?_)
  refine ops_run1 (l' := [(0, v), (2, S [])]) (by kernel_rfl) ?_
  refine ops_nil (nx_seq (at_seq (at_region ?_)))
  refine ops_alloc (z := .agg #[.pointer none, .slice none 0 0]) (cs := [.pointer none, .slice none 0 0]) (by kernel_rfl) (by kernel_rfl) (by kernel_rfl) (by kernel_rfl) (fun b1 w1 e1 h1 c1 z1 => ?_)
  have z2 := c1.size
  refine ops_nil (nx_seq (at_seq (at_seq (at_region ?_))))
  refine ops_run1 (l' := [(2, S []), (3, .pointer (some ⟨b1, 0, none⟩)), (6, v)]) (by kernel_rfl) ?_
  have h2 := hv.keep0 c1 (by omega)
  refine ops_len (e := 9) (by kernel_rfl) (by kernel_rfl) (by kernel_rfl) (by kernel_rfl) h2 ?_
  refine ops_run1 (l' := [(2, S []), (3, .pointer (some ⟨b1, 0, none⟩)), (6, v), (7, .int .i64 ((ls.length : Int))), (8, .int .i64 0)]) (by kernel_rfl) ?_
  refine ops_nil (nx_seq (at_block ?_))
  refine at_loop (X := Value × Value × Bytes × Nat) (fun x_ => [(2, S []), (3, .pointer (some ⟨b1, 0, none⟩)), (6, v), (7, .int .i64 ((ls.length : Int))), (8, .int .i64 ((x_.2.2.2 : Int)))]) (fun x_ W1 => Chg [b1] (w1.heap.size) w1 W1 ∧ Blk W1 b1 [x_.1, x_.2.1] 134 ∧ OwnR W1 w1.heap.size 5 x_.2.1 x_.2.2.1 ∧ ((x_.1 : Value) = .pointer none ∨ (x_.1 : Value) = .pointer (some ⟨b1, 0, none⟩)) ∧ (x_.2.2.2 ≤ ls.length) ∧ (x_.2.2.1 = linesP (ls.take x_.2.2.2)) ∧ (True)) (fun x_ => ls.length - x_.2.2.2) ((.pointer none), .slice none 0 0, [], 0) (proj_sub [2, 3, 6, 7, 8] (by kernel_rfl)) ⟨((Chg.refl [b1] w1).to (by omega) (by simp)), h1, OwnR.nil _ _ _, (show ((.pointer none) : Value) = .pointer none ∨ ((.pointer none) : Value) = .pointer (some ⟨b1, 0, none⟩) by exact .inl rfl), (show 0 ≤ ls.length by first | omega | (simp only [List.length_append, List.length_cons, List.length_nil, List.length_take, List.length_drop, List.length_map]; omega)), (show [] = linesP (ls.take 0) by rfl), (show True by trivial)⟩ ?_
  rintro ⟨p, v1, o, k⟩ w2 ⟨h3, h4, h5, h6, h7, h8, h9⟩
  replace h3 : Chg [b1] (w1.heap.size) w1 w2 := h3
  replace h4 : Blk w2 b1 [p, v1] 134 := h4
  replace h5 : OwnR w2 w1.heap.size 5 v1 o := h5
  replace h6 : ((p : Value) = .pointer none ∨ (p : Value) = .pointer (some ⟨b1, 0, none⟩)) := h6
  replace h7 : (k ≤ ls.length) := h7
  replace h8 : (o = linesP (ls.take k)) := h8
  replace h9 : (True) := h9
  have z3 := h3.size
  have z4 := h4.lt
  have ho := h8
  have hol : o.length ≤ 1000000000 := by rw [ho]; exact Nat.le_trans (linesP_take_le ls k) hlen
  have hbn : b1 < w2.heap.size := by omega
  refine at_seq (at_region ?_)
  refine ops_run1 (l' := [(2, S []), (3, .pointer (some ⟨b1, 0, none⟩)), (6, v), (7, .int .i64 ((ls.length : Int))), (8, .int .i64 ((k : Int))), (9, .bool (decide (((k : Int) : Int) < ((ls.length : Int) : Int))))]) (by kernel_rfl) ?_
  refine ops_nil (nx_seq (at_seq ?_))
  refine at_ifp (((k : Int) : Int) < ((ls.length : Int) : Int)) (by kernel_rfl) (fun q1 => ?_) (fun q1 => ?_)
  refine at_skip (nx_seq (at_seq (at_block (at_seq (at_region ?_)))))
  have h10 := h2.keep1 h3 (by omega) (by omega)
  refine ops_idx (e := 9) (i := (k : Int)) (kd := .i64) k (by kernel_rfl) (by kernel_rfl) (by kernel_rfl) (by kernel_rfl) (by kernel_rfl) (by kernel_rfl) h10 (by omega) (by first | omega | (simp only [List.length_append, List.length_cons, List.length_nil, List.length_take, List.length_drop, List.length_map]; omega)) (fun a1 h11 => ?_)
  have h12 := cell_sAt (l := ls) (j := k) h11 (by omega)
  refine ops_load (by kernel_rfl) (by kernel_rfl) (by kernel_rfl) (by kernel_rfl) h12 ?_
  have hxl : (ls.getD k []).length + 2 + o.length ≤ 1000000000 := by rw [ho]; exact Nat.le_trans (line_room ls (by omega)) hlen
  refine ops_run1 (l' := [(2, S []), (3, .pointer (some ⟨b1, 0, none⟩)), (5, S (ls.getD k [])), (6, v), (7, .int .i64 ((ls.length : Int))), (8, .int .i64 ((k : Int)))]) (by kernel_rfl) ?_
  refine ops_nil (nx_seq (at_seq (at_region ?_)))
  refine ops_run1 (l' := [(2, S []), (3, .pointer (some ⟨b1, 0, none⟩)), (6, v), (7, .int .i64 ((ls.length : Int))), (8, .int .i64 ((k : Int))), (12, S (ls.getD k []))]) (by kernel_rfl) ?_
  refine ops_callr (by kernel_rfl) (by kernel_rfl) (by kernel_rfl) (writeString_ok h4 h6 h5 (ls.getD k []) (by omega) (by omega) (by first | omega | (simp only [List.length_append, List.length_cons, List.length_nil, List.length_take, List.length_drop, List.length_map]; omega))) ?_
  rintro _ w3 ⟨v1, rfl, h13, h14, c2⟩
  have z5 := c2.size
  refine ops_nil (nx_seq (at_region ?_))
  refine ops_callr (by kernel_rfl) (by kernel_rfl) (by kernel_rfl) (writeString_ok h13 (.inr rfl) h14 [13, 10] (by omega) (by omega) (by first | omega | (simp only [List.length_append, List.length_cons, List.length_nil, List.length_take, List.length_drop, List.length_map]; omega))) ?_
  rintro _ w4 ⟨v2, rfl, h15, h16, c3⟩
  have z6 := c3.size
  refine ops_nil (nx_blk (nx_seq (at_region ?_)))
  refine ops_add (a := (k : Int)) (b := 1) (kd := .i64) (by kernel_rfl) (by kernel_rfl) (by kernel_rfl) (by kernel_rfl) (show (-9223372036854775808 : Int) ≤ ((k : Int)) + 1 by omega) (show ((k : Int)) + 1 ≤ (9223372036854775807 : Int) by omega) ?_
  refine ops_run1 (l' := [(2, S []), (3, .pointer (some ⟨b1, 0, none⟩)), (6, v), (7, .int .i64 ((ls.length : Int))), (8, .int .i64 (((k : Int)) + 1))]) (by kernel_rfl) ?_
  refine ops_nil ?_
  have hstep := line_step (ls := ls) (k := k) (by omega) ho
  refine nx_round ((.pointer (some ⟨b1, 0, none⟩)), v2, linesP (ls.take (k + 1)), (k) + 1) (proj_sub [2, 3, 6, 7, 8] (by kernel_rfl)) ⟨(((((Chg.refl [b1] w1).to (B' := w1.heap.size) (r' := [b1]) (by omega) (by simp)).step h3 (by omega) (by intro y hy; simp only [List.mem_cons, List.not_mem_nil, or_false, false_or] at hy ⊢; try omega)).step c2 (by omega) (by intro y hy; simp only [List.mem_cons, List.not_mem_nil, or_false, false_or] at hy ⊢; try omega)).step c3 (by omega) (by intro y hy; simp only [List.mem_cons, List.not_mem_nil, or_false, false_or] at hy ⊢; try omega)), h15, (hstep ▸ h16), (show ((.pointer (some ⟨b1, 0, none⟩)) : Value) = .pointer none ∨ ((.pointer (some ⟨b1, 0, none⟩)) : Value) = .pointer (some ⟨b1, 0, none⟩) by exact .inr rfl), (show ((k) + 1) ≤ ls.length by first | omega | (simp only [List.length_append, List.length_cons, List.length_nil, List.length_take, List.length_drop, List.length_map]; omega)), (show (linesP (ls.take (k + 1))) = linesP (ls.take ((k) + 1)) by rfl), (show True by trivial)⟩ (show ls.length - ((k) + 1) < ls.length - k by omega)
  refine at_exit (ex_seq (ex_inv (ex_here (nx_seq (at_seq (at_region ?_))))))
  refine ops_callr (by kernel_rfl) (by kernel_rfl) (by kernel_rfl) (builderString_ok h4 h6 h5 (.inl (by omega))) ?_
  rintro _ w5 ⟨rfl, c4⟩
  have z7 := c4.size
  refine ops_run1 (l' := [(2, S o)]) (by kernel_rfl) ?_
  refine ops_nil (nx_seq ?_)
  refine at_ret (rs := [.tmp 2]) (vs := [S o]) rfl (by kernel_rfl) ?_
  rw [ho, List.take_of_length_le (by omega : ls.length ≤ k)]
  exact ⟨_, rfl, rfl, ((((Chg.refl [] w).step0 c1 (by omega)).step h3 (by omega) (by intro y hy; simp only [List.mem_cons, List.not_mem_nil, or_false, false_or] at hy ⊢; try omega)).step0 c4 (by omega))⟩

end Go.Proofs.YtnjkdnbabogcjaaDoor
