/- Small rules beside K1 to K5: my own text. -/
import Derived.Test.YtnjkdnbabogcjaaDoorK5
set_option linter.unusedVariables false
set_option linter.unusedSimpArgs false
namespace Go.Kw
open Go Go.RowKit

theorem bs_from {w : World} {lo hi : Nat} {v : Value} {l : Bytes} {a : Nat} (h : Sl w lo hi v 1 (l.length - a) ((bcells l).drop (a * 1))) : Bs w lo hi v (l.drop a) := by
  have e : (bcells l).drop (a * 1) = bcells (l.drop a) := by simp [bcells, List.map_drop]
  rw [e] at h
  show Sl w lo hi v 1 (l.drop a).length _
  rw [List.length_drop]; exact h
theorem bs_upto {w : World} {lo hi : Nat} {v : Value} {l : Bytes} {b : Nat} (h : Sl w lo hi v 1 b ((bcells l).take (b * 1))) (hb : b ≤ l.length) : Bs w lo hi v (l.take b) := by
  have e : (bcells l).take (b * 1) = bcells (l.take b) := by simp [bcells, List.map_take]
  rw [e] at h
  show Sl w lo hi v 1 (l.take b).length _
  rw [List.length_take, Nat.min_eq_left hb]; exact h
theorem bs_part {w : World} {lo hi : Nat} {v : Value} {l : Bytes} {a b : Nat} (h : Sl w lo hi v 1 (b - a) (((bcells l).drop (a * 1)).take ((b - a) * 1))) (hb : b ≤ l.length) : Bs w lo hi v ((l.drop a).take (b - a)) := by
  have e : ((bcells l).drop (a * 1)).take ((b - a) * 1) = bcells ((l.drop a).take (b - a)) := by simp [bcells, List.map_take, List.map_drop]
  rw [e] at h
  show Sl w lo hi v 1 ((l.drop a).take (b - a)).length _
  rw [List.length_take, List.length_drop, Nat.min_eq_left (by omega)]; exact h
theorem addr_add0 (a : Addr) : a.add 0 = a := rfl
theorem cell_bAt {w : World} {a : Addr} {l : Bytes} {j : Nat} (h : ∀ q, q < 1 → w.cell? (a.add q) = (bcells l)[j * 1 + q]?) (hj : j < l.length) : w.cell? a = some (.int .u8 (bAt l j)) := by
  have := h 0 (by omega)
  rw [addr_add0] at this
  rw [this]
  simp [bcells, bAt, hj]
/-- The text at a place. -/
theorem cell_sAt {w : World} {a : Addr} {l : List Bytes} {j : Nat} (h : ∀ q, q < 1 → w.cell? (a.add q) = (l.map S)[j * 1 + q]?) (hj : j < l.length) : w.cell? a = some (S (l.getD j [])) := by
  have := h 0 (by omega)
  rw [addr_add0] at this
  rw [this]
  simp [hj]

section
variable {P : Program} {ro : Option Nat} {B_ : Post} {n : Nat} {ds : List Deferred} {k : List Kont} {l : Env} {w : World} {all : Array Oper}
variable {rest : List Oper} {d : Option Tmp} {ty : TypeId} {p : String} {af : Array Edge} {g : Option (Nat × Bool)}
theorem ops_panic0 {o : Oper} {v : Value} (hg : wantsO all l o.guard = some true) (hok : okO l o = true) (hrun : (execOp (lk l) o).run P w = .halt (.panic v) w)
    (h : ∀ a, E n ds l a → B_ (.panic [{ v, recovered := false }]) a w) : Ops P ro B_ n ds k all (o :: rest) l w := ops_panic hg hok hrun h
theorem ops_min {x y : Operand} {a b : Int} {kd : IntKind} {ts : Array TypeId} (hg : wantsO all l g = some true) (hok : (okO l ⟨d, .call { callee := .builtin .min, args := #[x, y], argTypes := ts }, ty, p, af, g⟩ && dOk n d) = true) (hx : lk l x = .int kd a) (hy : lk l y = .int kd b)
    (next : Ops P ro B_ n ds k all rest (putD l d (.int kd (min a b))) w) : Ops P ro B_ n ds k all (⟨d, .call { callee := .builtin .min, args := #[x, y], argTypes := ts }, ty, p, af, g⟩ :: rest) l w := by
  refine ops_val (v := .int kd (min a b)) (w' := w) hg hok ?_ next
  have e : (if b < a then b else a) = min a b := by omega
  simp [execOp, resolve, invoke, builtin, hx, hy, Builtin.min_, Builtin.min2, List.foldlM, e]
theorem ops_max {x y : Operand} {a b : Int} {kd : IntKind} {ts : Array TypeId} (hg : wantsO all l g = some true) (hok : (okO l ⟨d, .call { callee := .builtin .max, args := #[x, y], argTypes := ts }, ty, p, af, g⟩ && dOk n d) = true) (hx : lk l x = .int kd a) (hy : lk l y = .int kd b)
    (next : Ops P ro B_ n ds k all rest (putD l d (.int kd (max a b))) w) : Ops P ro B_ n ds k all (⟨d, .call { callee := .builtin .max, args := #[x, y], argTypes := ts }, ty, p, af, g⟩ :: rest) l w := by
  refine ops_val (v := .int kd (max a b)) (w' := w) hg hok ?_ next
  have e : (if b > a then b else a) = max a b := by omega
  simp [execOp, resolve, invoke, builtin, hx, hy, Builtin.max_, Builtin.max2, List.foldlM, e]
/-- A struct stored. -/
theorem ops_storeS {t : TypeId} {x y : Operand} {b i : Nat} {cs vs : List Value} {T : TypeId} (cs' : List Value) (hg : wantsO all l g = some true) (hok : (okO l ⟨d, .store t x y, ty, p, af, g⟩ && dOk n d) = true) (hx : lk l x = .pointer (some ⟨b, i, none⟩))
    (hy : lk l y = .agg vs.toArray) (hone : vs.all (·.oneCell') = true) (hsz : (P.info? t).map (·.size) = some vs.length) (hb : Blk w b cs T) (hle : Nat.ble (i + vs.length) cs.length = true) (hv : cs.take i ++ vs ++ cs.drop (i + vs.length) = cs')
    (next : ∀ w', Blk w' b cs' T → Chg [b] w.heap.size w w' → w'.heap.size = w.heap.size → Ops P ro B_ n ds k all rest (putD l d undef) w') : Ops P ro B_ n ds k all (⟨d, .store t x y, ty, p, af, g⟩ :: rest) l w := by
  have hle' := Nat.le_of_ble_eq_true hle
  obtain ⟨i0, hi0, hs0⟩ := Option.map_eq_some_iff.1 hsz
  have hst := run_storeCells_cells (P := P) b i vs 0 w (fun j hj => by rw [hb.cell]; simp; omega) (fun j hj => hb.free _) (by simpa using hone)
  have hc : Chg [b] w.heap.size w (w.setCells b i vs) :=
    ⟨(setCells_os _ _ _ _).1, (setCells_os _ _ _ _).2.1, (setCells_os _ _ _ _).2.2, by rw [setCells_size]; exact Nat.le_refl _, Nat.le_refl _, fun x _ hx => setCells_far b vs _ w x (by simpa using hx)⟩
  refine ops_skp (w' := w.setCells b i vs) hg hok ?_ (next _ (hv ▸ ?_) hc (setCells_size _ _ _ _))
  · simp only [Nat.add_zero] at hst
    simp [execOp, hx, hy, Instr.storeAt, Instr.sureAddr, storeVar, sizeOf, typeInfo, hi0, hs0, Value.cells, hst]
  · clear hst hc hv hone hsz hi0 hs0 hy hok next hle i0
    have key : ∀ (vs : List Value) (i : Nat) (w : World) (cs : List Value), Blk w b cs T → i + vs.length ≤ cs.length → Blk (w.setCells b i vs) b (cs.take i ++ vs ++ cs.drop (i + vs.length)) T := by
      intro vs
      induction vs with
      | nil => intro i w cs h _; simpa [World.setCells] using h
      | cons v r ih =>
        intro i w cs h hl
        simp only [List.length_cons] at hl
        have h2 := ih (i + 1) (w.setCell ⟨b, i, none⟩ v) (cs.set i v) (h.set i v) (by simp; omega)
        have e : (cs.set i v).take (i + 1) ++ r ++ (cs.set i v).drop (i + 1 + r.length) = cs.take i ++ v :: r ++ cs.drop (i + (v :: r).length) := by
          rw [List.take_succ_eq_append_getElem (by simp; omega)]
          rw [List.take_set_of_le (Nat.le_refl _), List.getElem_set_self, List.drop_set_of_lt (by omega)]
          simp only [List.length_cons]
          rw [show i + 1 + r.length = i + (r.length + 1) by omega]
          simp [List.append_assoc]
        rw [e] at h2
        exact h2
    exact key vs i w cs hb hle'
end
end Go.Kw
