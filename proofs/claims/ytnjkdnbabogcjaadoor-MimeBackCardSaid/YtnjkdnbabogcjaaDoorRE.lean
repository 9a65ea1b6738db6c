/- Envelopes opened: my own text. -/
import Derived.Test.YtnjkdnbabogcjaaDoorRB
set_option linter.unusedVariables false
set_option linter.unusedSimpArgs false
namespace Go.Proofs.YtnjkdnbabogcjaaDoor
open Go Go.ChangeShapes Go.WideShapes Go.ChangeAt Go.RowKit Go.Kw
theorem rU22 : Tryd.prog.underlying 22 = some (.slice 5) := by kernel_rfl
theorem rU5 : Tryd.prog.underlying 5 = some (.int .u8) := by kernel_rfl
theorem rC5 : Tryd.prog.cellsOf 5 = 1 := by kernel_rfl
theorem rUE : Tryd.prog.underlying 26 = some (.struct (Tryd.prog.fieldsOf 26)) := by kernel_rfl
theorem vlen3 {l : List Value} (h : l.length = 3) : ∃ a b c, l = [a, b, c] := by
  match l, h with
  | [a, b, c], _ => exact ⟨a, b, c, rfl⟩
theorem rd_env {H : Type} {enc : TypeId × Value → H} {w : World} {fuel : Nat} {cs : List Value} {x : DataW H × List MemPlace} {held : Bool} (h : DataW.trod enc Tryd.prog w 0 (fun _ => true) held fuel 26 cs = some x) (hs : Small Tryd.prog 26 x.1) :
    ∃ (fr : Bytes) (to : List Bytes) (at_ : Int) (tv : Value), cs = [S fr, tv, .int .i64 at_] ∧ Ss w 0 w.heap.size tv to ∧ fr.length < 4611686018427387904 ∧ (∀ s, s ∈ to → s.length < 4611686018427387904) ∧ -9223372036854775808 ≤ at_ ∧ at_ ≤ 9223372036854775807 := by
  obtain ⟨hl, hf⟩ := rd_struct rUE h hs
  obtain ⟨n0, y0, t0, s0⟩ := hf 0 9 0 (by kernel_rfl)
  obtain ⟨n1, y1, t1, s1⟩ := hf 1 24 1 (by kernel_rfl)
  obtain ⟨n2, y2, t2, s2⟩ := hf 2 2 2 (by kernel_rfl)
  have hl3 : cs.length = 3 := hl.trans (by kernel_rfl)
  rw [show Tryd.prog.cellsOf 9 = 1 from by kernel_rfl] at t0
  rw [show Tryd.prog.cellsOf 24 = 1 from by kernel_rfl] at t1
  rw [show Tryd.prog.cellsOf 2 = 1 from by kernel_rfl] at t2
  obtain ⟨a, b, c, rfl⟩ := vlen3 hl3
  replace t0 : DataW.trod enc Tryd.prog w 0 (fun _ => true) held n0 9 [a] = some y0 := t0
  replace t1 : DataW.trod enc Tryd.prog w 0 (fun _ => true) held n1 24 [b] = some y1 := t1
  replace t2 : DataW.trod enc Tryd.prog w 0 (fun _ => true) held n2 2 [c] = some y2 := t2
  obtain ⟨fr, e0, l0⟩ := rd_str (by kernel_rfl) t0 s0
  obtain ⟨tv, to, e1, hS, l1⟩ := rd_strs (e := 9) (by kernel_rfl) (by kernel_rfl) (by kernel_rfl) t1 s1
  obtain ⟨n, e2, l2, l3⟩ := rd_int (k := .i64) (by kernel_rfl) t2
  injection e0 with e0; injection e1 with e1; injection e2 with e2
  subst e0; subst e1; subst e2
  have hr : reachBytes < 4611686018427387904 := by decide
  exact ⟨fr, to, n, b, rfl, hS, by omega, fun s hs => by have := l1 s hs; omega, l2, l3⟩
end Go.Proofs.YtnjkdnbabogcjaaDoor
