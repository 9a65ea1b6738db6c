/- A walk, printed by a program of my own (wip/gen/walk.py) from a script of mine. -/
import Derived.Test.YtnjkdnbabogcjaaDoorProg
import Derived.Test.YtnjkdnbabogcjaaDoorL0
import Derived.Test.YtnjkdnbabogcjaaDoorQ4
import Derived.Test.YtnjkdnbabogcjaaDoorP4
set_option maxHeartbeats 4000000
set_option linter.unusedVariables false
set_option linter.unusedSimpArgs false
set_option maxRecDepth 100000
namespace Go.Proofs.YtnjkdnbabogcjaaDoor
open Go Go.RowKit Go.Kw

theorem entry_must (b : Bool) (w : World) : Rp Tryd.prog 37 #[.bool b] w (fun v w' => b = true ∧ v = .tuple #[] ∧ w' = w) (fun ch w' => b = false ∧ ch = thrown 121 ∧ w' = w) := by
  refine enter (n := 6) (args := [.bool b]) Tryd.func37 rfl rfl (Nat.le_of_ble_eq_true (by kernel_rfl)) ?_
  refine at_seq (at_region ?_)
  refine ops_run2 (l' := [(3, .bool (!b))]) (by kernel_rfl) ?_
  refine ops_nil (nx_seq ?_)
  refine at_if (!b) (by kernel_rfl) (fun q1 => ?_) (fun q1 => ?_)
  refine at_region ?_
  refine ops_run2 (l' := [(5, .iface 121 (.agg #[]))]) (by kernel_rfl) ?_
  refine ops_panic0 (v := .iface 121 (.agg #[])) (by kernel_rfl) (by kernel_rfl) (by kernel_rfl) (fun a1 h1 => out_panic h1 ?_)
  exact .inr ⟨_, rfl, by cases b <;> simp_all, rfl, rfl⟩
  refine at_skip ?_
  refine nx_ret (rs := []) (vs := []) rfl (by kernel_rfl) ?_
  exact .inl ⟨_, rfl, by cases b <;> simp_all, rfl, rfl⟩
theorem entry_idle (b : Nat) (w : World) : CallsDIn (Fw none) (0 - 1) Tryd.prog 85 [Value.pointer (some ⟨b, 0, none⟩)].toArray .returning w fun e u' w' => e = .returned (.tuple #[]) ∧ u' = .returning ∧ w' = w := by
  refine enterS (n := 15) (args := [.pointer (some ⟨b, 0, none⟩)]) (rv := .nilIface) (u' := .returning) (t4 := 4) (t1 := 1) Tryd.func85 rfl rfl (Nat.le_of_ble_eq_true (by kernel_rfl)) (by decide) (by decide) (fun c0 cs hu => .inr ⟨by simp [recoverD, hu], rfl, rfl⟩) (fun c0 cs => ?_)
  refine at_seq (at_region ?_)
  refine ops_run2 (l' := [(0, .pointer (some ⟨b, 0, none⟩)), (1, .nilIface), (6, .bool false)]) (by kernel_rfl) ?_
  refine ops_nil (nx_seq ?_)
  refine at_iff (by kernel_rfl) ?_
  refine at_skip ?_
  exact nx_endS rfl ⟨rfl, rfl, rfl⟩
theorem entry_back (b : Nat) (w : World) (hb : Blk w b [.int .i64 0] 29) : CallsDIn (Fw none) (0 - 1) Tryd.prog 85 [Value.pointer (some ⟨b, 0, none⟩)].toArray (.panicking (thrown 121)) w fun e u' w' => e = .returned (.tuple #[]) ∧ settle u' = .returning ∧ Blk w' b [.int .i64 150] 29 ∧ Chg [b] w.heap.size w w' := by
  have hbl := hb.lt
  refine enterS (n := 15) (args := [.pointer (some ⟨b, 0, none⟩)]) (rv := .iface 121 (.agg #[])) (u' := .panicking [{ v := .iface 121 (.agg #[]), recovered := true }]) (t4 := 4) (t1 := 1) Tryd.func85 rfl rfl (Nat.le_of_ble_eq_true (by kernel_rfl)) (by decide) (by decide) (fun c0 cs hu => .inl (by simp [recoverD, hu])) (fun c0 cs => ?_)
  refine at_seq (at_region ?_)
  refine ops_run2 (l' := [(0, .pointer (some ⟨b, 0, none⟩)), (1, .iface 121 (.agg #[])), (6, .bool true)]) (by kernel_rfl) ?_
  refine ops_nil (nx_seq ?_)
  refine at_ift (by kernel_rfl) ?_
  refine at_seq (at_seq (at_region ?_))
  refine ops_run5 (l' := [(0, .pointer (some ⟨b, 0, none⟩)), (1, .iface 121 (.agg #[])), (10, .agg #[]), (11, .bool true)]) (by kernel_rfl) ?_
  refine ops_alloc (z := .agg #[]) (cs := []) (by kernel_rfl) (by kernel_rfl) (by kernel_rfl) (by kernel_rfl) (fun b1 w1 e1 h1 c1 z1 => ?_)
  have z2 := c1.size
  refine ops_storeS (i := 0) (vs := []) [] (by kernel_rfl) (by kernel_rfl) (by kernel_rfl) (by kernel_rfl) (by kernel_rfl) (by kernel_rfl) h1 (by kernel_rfl) (by kernel_rfl) (fun w2 h2 c2 z3 => ?_)
  have z4 := c2.size
  refine ops_run1 (l' := [(0, .pointer (some ⟨b, 0, none⟩)), (1, .iface 121 (.agg #[])), (3, .bool true)]) (by kernel_rfl) ?_
  refine ops_nil (nx_seq (at_seq (at_region ?_)))
  refine ops_run2 (l' := [(0, .pointer (some ⟨b, 0, none⟩)), (1, .iface 121 (.agg #[])), (13, .bool false)]) (by kernel_rfl) ?_
  refine ops_nil (nx_seq ?_)
  refine at_iff (by kernel_rfl) ?_
  refine at_skip (nx_seq (at_region ?_))
  have h3 := hb.keep0 c1 (by omega)
  have h4 := h3.keep1 c2 (by omega) (by omega)
  refine ops_store (i := 0) (v := .int .i64 150) [.int .i64 150] (by kernel_rfl) (by kernel_rfl) (by kernel_rfl) (by kernel_rfl) (by kernel_rfl) (by kernel_rfl) h4 (by kernel_rfl) (by kernel_rfl) (fun w3 h5 c3 z5 => ?_)
  have z6 := c3.size
  refine ops_nil ?_
  exact nx_endS rfl ⟨rfl, rfl, h5, ((((Chg.refl [b] w).step0 c1 (by omega)).step c2 (by omega) (by intro y hy; simp only [List.mem_cons, List.not_mem_nil, or_false, false_or] at hy ⊢; try omega)).step c3 (by omega) (by intro y hy; simp only [List.mem_cons, List.not_mem_nil, or_false, false_or] at hy ⊢; try omega))⟩
theorem entry_caught (g : FuncId) (cap : List Value) (eg : ∀ args w, (callFunc g args).run Tryd.prog w = .ok (.enter g args) w) (R Q : World → Prop) (r : List Nat) (w : World) (hr : ∀ x, x ∈ r → x ≠ w.heap.size)
    (hc : ∀ w1, Chg [] w.heap.size w w1 → w1.heap.size = w.heap.size + 1 → Rp Tryd.prog g cap.toArray w1 (fun _ w2 => R w2 ∧ Chg r w1.heap.size w1 w2) (fun ch w2 => ch = thrown 121 ∧ Q w2 ∧ Chg r w1.heap.size w1 w2)) :
    Rt Tryd.prog 33 #[.func (.func g) #[] cap.toArray] w fun v w3 => ∃ w1 w2, Chg [] w.heap.size w w1 ∧ Chg r w1.heap.size w1 w2 ∧ Chg [w.heap.size] w2.heap.size w2 w3 ∧ ((v = .int .i64 0 ∧ R w2) ∨ (v = .int .i64 150 ∧ Q w2)) := by
  refine enterM (n := 6) (args := [(.func (.func g) #[] cap.toArray)]) Tryd.func33 rfl rfl (Nat.le_of_ble_eq_true (by kernel_rfl)) ?_
  refine at_seq (at_region ?_)
  refine ops_alloc (z := .int .i64 0) (cs := [.int .i64 0]) (by kernel_rfl) (by kernel_rfl) (by kernel_rfl) (by kernel_rfl) (fun b1 w1 e1 h1 c1 z1 => ?_)
  have z2 := c1.size
  refine ops_nil (nx_seq (at_seq (at_region ?_)))
  refine ops_run1 (l' := [(0, (.func (.func g) #[] cap.toArray)), (2, .pointer (some ⟨b1, 0, none⟩)), (3, .func (.func 85) #[] #[.pointer (some ⟨b1, 0, none⟩)])]) (by kernel_rfl) ?_
  refine ops_defer (f := 85) (cap := [.pointer (some ⟨b1, 0, none⟩)]) (by kernel_rfl) (by kernel_rfl) (by kernel_rfl) rfl ?_
  refine ops_nil (nx_seq (at_seq (at_region ?_)))
  refine ops_run1 (l' := [(2, .pointer (some ⟨b1, 0, none⟩)), (4, (.func (.func g) #[] cap.toArray))]) (by kernel_rfl) ?_
  refine ops_callp (by kernel_rfl) (by kernel_rfl) ?_ (hc w1 c1 (by omega)) ?_ (fun ch wR a ha hq => ?_)
  exact run_callv (by kernel_rfl) eg
  rintro v wR ⟨hR, cR⟩
  have hb2 := h1.keep cR (by omega) (fun hm => hr _ hm (by omega))
  have zz := cR.size
  have hbl := hb2.lt
  refine ops_nil (nx_seq (at_seq (at_region ?_)))
  refine ops_store (i := 0) (v := .int .i64 0) [.int .i64 0] (by kernel_rfl) (by kernel_rfl) (by kernel_rfl) (by kernel_rfl) (by kernel_rfl) (by kernel_rfl) hb2 (by kernel_rfl) (by kernel_rfl) (fun w2 h2 c2 z3 => ?_)
  have z4 := c2.size
  refine ops_nil (nx_seq ?_)
  refine at_retD (rs := [.cell 2 29]) (by kernel_rfl) rfl ?_
  refine (entry_idle b1 w2).mono ?_
  rintro e u' w4 ⟨rfl, rfl, rfl⟩
  refine ⟨_, rfl, rfl, [.int .i64 0], ResV.cell (by kernel_rfl) h2 (by kernel_rfl) ResV.nil, ?_⟩
  exact ⟨_, rfl, _, _, c1, cR, e1 ▸ ((Chg.refl [b1] wR).step c2 (by omega) (by intro y hy; simp only [List.mem_cons, List.not_mem_nil, or_false, false_or] at hy ⊢; try omega)), .inl ⟨rfl, hR⟩⟩
  obtain ⟨rfl, hQ, cR⟩ := hq
  have hb2 := h1.keep cR (by omega) (fun hm => hr _ hm (by omega))
  refine out_panicD (rs := [.cell 2 29]) ha (by kernel_rfl) rfl ?_
  refine (entry_back b1 wR hb2).mono ?_
  rintro e u' w3 ⟨rfl, hs, hb3, c3⟩
  have zz := cR.size
  refine ⟨_, rfl, hs, [.int .i64 150], ?_, ?_⟩
  · exact ResV.cell (by kernel_rfl) hb3 (by kernel_rfl) ResV.nil
  · exact ⟨_, rfl, _, _, c1, cR, e1 ▸ c3, .inr ⟨rfl, hQ⟩⟩

end Go.Proofs.YtnjkdnbabogcjaaDoor
