/- Memory: what is known of worlds, and the rules of the operations that touch it: my own text. -/
import Derived.Test.YtnjkdnbabogcjaaDoorK1
import Derived.Deep.AppendSrc
import Derived.Lib.ConvBytes
import Derived.Laws.BytesArg
import Derived.Deep.Draws
import Derived.Maps.AppendAt
set_option linter.unusedVariables false
set_option linter.unusedSimpArgs false
namespace Go.Kw
open Go Go.RowKit

/-! ### What has changed -/
/-- Below B nothing but the blocks of r has changed. -/
structure Chg (r : List Nat) (B : Nat) (w w' : World) : Prop where
  os : w'.os = w.os
  tape : w'.tape = w.tape
  output : w'.output = w.output
  size : w.heap.size ≤ w'.heap.size
  bound : B ≤ w.heap.size
  block : ∀ b, b < B → b ∉ r → w'.heap[b]? = w.heap[b]?
abbrev Same (w w' : World) : Prop := Chg [] w.heap.size w w'
theorem Chg.refl (r : List Nat) (w : World) : Chg r w.heap.size w w := ⟨rfl, rfl, rfl, Nat.le_refl _, Nat.le_refl _, fun _ _ _ => rfl⟩
theorem Chg.to {r r' : List Nat} {B B' : Nat} {w w' : World} (h : Chg r B w w') (hB : B' ≤ B) (hr : ∀ b, b ∈ r → b ∈ r' ∨ B' ≤ b) : Chg r' B' w w' :=
  ⟨h.os, h.tape, h.output, h.size, Nat.le_trans hB h.bound, fun b hb hn => h.block b (Nat.lt_of_lt_of_le hb hB) (fun hm => (hr b hm).elim hn (fun h => by omega))⟩
theorem Chg.step {r r' : List Nat} {B B' : Nat} {a b c : World} (h : Chg r B a b) (k : Chg r' B' b c) (hB : B ≤ B') (hr : ∀ x, x ∈ r' → x ∈ r ∨ B ≤ x) : Chg r B a c :=
  ⟨k.os.trans h.os, k.tape.trans h.tape, k.output.trans h.output, Nat.le_trans h.size k.size, h.bound, fun x hx hn =>
    (k.block x (Nat.lt_of_lt_of_le hx hB) (fun hm => (hr x hm).elim hn (fun h => by omega))).trans (h.block x hx hn)⟩
/-- A step that touches nothing old. -/
theorem Chg.step0 {r : List Nat} {B B' : Nat} {a b c : World} (h : Chg r B a b) (k : Chg [] B' b c) (hB : B ≤ B') : Chg r B a c := h.step k hB (fun x hx => by cases hx)
theorem Chg.step1 {r : List Nat} {B B' x : Nat} {a b c : World} (h : Chg r B a b) (k : Chg [x] B' b c) (hB : B ≤ B') (hx : x ∈ r ∨ B ≤ x) : Chg r B a c := h.step k hB (fun y hy => by simp at hy; subst hy; exact hx)
theorem Chg.below {B : Nat} {w w' : World} (h : Chg [] B w w') : Below B w w' := ⟨h.os, h.tape, h.output, h.size, fun b hb => h.block b hb (by simp)⟩
theorem Chg.of_below {B : Nat} {w w' : World} (h : Below B w w') (hB : B ≤ w.heap.size) : Chg [] B w w' := ⟨h.os, h.tape, h.output, h.size, hB, fun b hb _ => h.block b hb⟩
theorem Chg.alloc (w : World) (o : Obj) : Chg [] w.heap.size w (w.alloc o) := ⟨rfl, rfl, rfl, by simp, Nat.le_refl _, fun b hb _ => Below.heap_alloc w o b hb⟩
theorem Chg.drew (w : World) : Chg [] w.heap.size w w.drew := ⟨rfl, rfl, rfl, Nat.le_refl _, Nat.le_refl _, fun b hb _ => rfl⟩
theorem Chg.setCell (w : World) (a : Addr) (u : Value) : Chg [a.block] w.heap.size w (w.setCell a u) := ⟨rfl, rfl, rfl, by simp, Nat.le_refl _, fun b hb hn => Below.heap_setCell w a u b (by simpa using hn)⟩
theorem Chg.grown {w w' : World} {row : Option Nat} (h : w.grownBy w' row) : Chg row.toList w.heap.size w w' :=
  ⟨h.os, h.tape, h.output, h.size, Nat.le_refl _, fun b hb hn => h.block b hb (fun e => hn (by rw [← e]; simp))⟩

/-! ### A block known whole -/
def Blk (w : World) (b : Nat) (cs : List Value) (T : TypeId) : Prop := w.heap[b]? = some (.cells cs.toArray T (0, 0))
theorem Blk.lt {w : World} {b : Nat} {cs : List Value} {T : TypeId} (h : Blk w b cs T) : b < w.heap.size := (Array.getElem?_eq_some_iff.1 h).1
theorem Blk.keep {w w' : World} {b : Nat} {cs : List Value} {T : TypeId} {r : List Nat} {B : Nat} (h : Blk w b cs T) (c : Chg r B w w') (hB : b < B) (hr : b ∉ r) : Blk w' b cs T := (c.block b hB hr).trans h
theorem Blk.keep0 {w w' : World} {b : Nat} {cs : List Value} {T : TypeId} {B : Nat} (h : Blk w b cs T) (c : Chg [] B w w') (hB : b < B) : Blk w' b cs T := h.keep c hB (by simp)
theorem Blk.keep1 {w w' : World} {b x : Nat} {cs : List Value} {T : TypeId} {B : Nat} (h : Blk w b cs T) (c : Chg [x] B w w') (hB : b < B) (hx : b ≠ x) : Blk w' b cs T := h.keep c hB (by simpa using hx)
theorem Blk.cell {w : World} {b : Nat} {cs : List Value} {T : TypeId} (h : Blk w b cs T) (i : Nat) : w.cell? ⟨b, i, none⟩ = cs[i]? := by
  rw [cell_of_row w b i _ T (0, 0) h]; simp
theorem Blk.free {w : World} {b : Nat} {cs : List Value} {T : TypeId} (h : Blk w b cs T) (i : Nat) : w.frozen? ⟨b, i, none⟩ = false := frozen_of_row w b i _ T h
theorem Blk.new (w : World) (cs : List Value) (T : TypeId) : Blk (w.alloc (.cells cs.toArray T)) w.heap.size cs T := heap_alloc_new w _
theorem Blk.set {w : World} {b : Nat} {cs : List Value} {T : TypeId} (h : Blk w b cs T) (i : Nat) (v : Value) : Blk (w.setCell ⟨b, i, none⟩ v) b (cs.set i v) T := by
  unfold Blk at *
  rw [heap_setCell_same w b i _ T v h]
  simp

section
variable {P : Program} {ro : Option Nat} {B_ : Post} {n : Nat} {ds : List Deferred} {k : List Kont} {l : Env} {w : World} {all : Array Oper}
variable {rest : List Oper} {d : Option Tmp} {ty : TypeId} {p : String} {af : Array Edge} {g : Option (Nat × Bool)}

/-! ### Boxes -/
theorem ops_box {T : TypeId} {x : Operand} {cs : List Value} (hg : wantsO all l g = some true) (hok : (okO l ⟨d, .box T x, ty, p, af, g⟩ && dOk n d) = true) (hx : (lk l x).cells = cs.toArray)
    (next : ∀ b w', b = w.heap.size → Blk w' b cs T → Chg [] w.heap.size w w' → w'.heap.size = w.heap.size + 1 → Ops P ro B_ n ds k all rest (putD l d (.pointer (some ⟨b, 0, none⟩))) w') : Ops P ro B_ n ds k all (⟨d, .box T x, ty, p, af, g⟩ :: rest) l w := by
  refine ops_val (v := .pointer (some ⟨w.heap.size, 0, none⟩)) (w' := w.alloc (.cells cs.toArray T)) hg hok ?_ (next _ _ rfl (Blk.new w cs T) (Chg.alloc w _) (by simp))
  simp [execOp, Instr.box, newVar, newRow, hx]
theorem ops_alloc {T : TypeId} {z : Value} {cs : List Value} (hg : wantsO all l g = some true) (hd : dOk n d = true) (hz : (P.info? T).bind (·.zero) = some z) (hx : z.cells = cs.toArray)
    (next : ∀ b w', b = w.heap.size → Blk w' b cs T → Chg [] w.heap.size w w' → w'.heap.size = w.heap.size + 1 → Ops P ro B_ n ds k all rest (putD l d (.pointer (some ⟨b, 0, none⟩))) w') : Ops P ro B_ n ds k all (⟨d, .alloc T, ty, p, af, g⟩ :: rest) l w := by
  obtain ⟨i, hi, hz'⟩ := Option.bind_eq_some_iff.1 hz
  refine ops_val (v := .pointer (some ⟨w.heap.size, 0, none⟩)) (w' := w.alloc (.cells cs.toArray T)) hg (by simp [okO, Op.operands, hd]) ?_ (next _ _ rfl (Blk.new w cs T) (Chg.alloc w _) (by simp))
  simp [execOp, Instr.alloc, newVar, newRow, zeroValue, typeInfo, hi, hz', hx]
def aggB (P : Program) (t : TypeId) : Option Bool := (P.underlying t).map fun | .struct _ => true | .array _ _ => true | _ => false
theorem isAgg_of {t : TypeId} {b : Bool} (h : aggB P t = some b) (w : World) : (isAgg t).run P w = .ok b w := by
  obtain ⟨u, hu, hb⟩ := Option.map_eq_some_iff.1 h
  simp [isAgg, run_underlying hu]
  cases u <;> simp_all
/-- One cell read. -/
theorem ops_load {t : TypeId} {x : Operand} {a : Addr} {v : Value} (hg : wantsO all l g = some true) (hok : (okO l ⟨d, .load t x, ty, p, af, g⟩ && dOk n d) = true) (hx : lk l x = .pointer (some a))
    (hag : aggB P t = some false) (hc : w.cell? a = some v) (next : Ops P ro B_ n ds k all rest (putD l d v) w) : Ops P ro B_ n ds k all (⟨d, .load t x, ty, p, af, g⟩ :: rest) l w := by
  refine ops_val (v := v) (w' := w) hg hok ?_ next
  simp [execOp, hx, Instr.loadAt, Instr.sureAddr, loadVar, isAgg_of hag, hc]
/-- A cell of a block known whole. -/
theorem ops_loadB {t : TypeId} {x : Operand} {b i : Nat} {cs : List Value} {T : TypeId} {v : Value} (hg : wantsO all l g = some true) (hok : (okO l ⟨d, .load t x, ty, p, af, g⟩ && dOk n d) = true) (hx : lk l x = .pointer (some ⟨b, i, none⟩))
    (hag : aggB P t = some false) (hb : Blk w b cs T) (hv : cs[i]? = some v) (next : Ops P ro B_ n ds k all rest (putD l d v) w) : Ops P ro B_ n ds k all (⟨d, .load t x, ty, p, af, g⟩ :: rest) l w :=
  ops_load hg hok hx hag ((hb.cell i).trans hv) next
theorem run_loadCells_blk {b i : Nat} {cs : List Value} {T : TypeId} (hb : Blk w b cs T) : ∀ (m : Nat) (j : Nat) (acc : Array Value), i + j + m ≤ cs.length → (loadCellsFrom ⟨b, i, none⟩ j m acc).run P w = .ok (acc ++ ((cs.drop (i + j)).take m).toArray) w
  | 0, j, acc, _ => by simp [loadCellsFrom]
  | m + 1, j, acc, h => by
    have hlt : i + j < cs.length := by omega
    have ha : (⟨b, i, none⟩ : Addr).add j = ⟨b, i + j, none⟩ := by unfold Addr.add; split <;> simp_all
    have hc : w.cell? ⟨b, i + j, none⟩ = some cs[i + j] := by rw [hb.cell]; simp [hlt]
    have ih := run_loadCells_blk (i := i) hb m (j + 1) (acc.push cs[i + j]) (by omega)
    simp only [loadCellsFrom, Sem.run_bind, run_load, ha, hc]
    simp only [Result.andThen_ok]
    rw [ih]
    congr 1
    apply Array.ext'
    simp only [Array.toList_append, Array.toList_push, List.append_assoc, List.singleton_append]
    rw [List.drop_eq_getElem_cons hlt, List.take_succ_cons]
    rfl
/-- A struct read. -/
theorem ops_loadS {t : TypeId} {x : Operand} {b i : Nat} {cs vs : List Value} {T : TypeId} (m : Nat) (hg : wantsO all l g = some true) (hok : (okO l ⟨d, .load t x, ty, p, af, g⟩ && dOk n d) = true) (hx : lk l x = .pointer (some ⟨b, i, none⟩))
    (hag : aggB P t = some true) (hsz : (P.info? t).map (·.size) = some m) (hb : Blk w b cs T) (hle : Nat.ble (i + m) cs.length = true) (hv : (cs.drop i).take m = vs) (next : Ops P ro B_ n ds k all rest (putD l d (.agg vs.toArray)) w) : Ops P ro B_ n ds k all (⟨d, .load t x, ty, p, af, g⟩ :: rest) l w := by
  refine ops_val (v := .agg vs.toArray) (w' := w) hg hok ?_ next
  obtain ⟨i0, hi0, hs0⟩ := Option.map_eq_some_iff.1 hsz
  have h := run_loadCells_blk (P := P) (i := i) hb m 0 #[] (by have := Nat.le_of_ble_eq_true hle; omega)
  simp [execOp, hx, Instr.loadAt, Instr.sureAddr, loadVar, isAgg_of hag, sizeOf, typeInfo, hi0, hs0, loadCells, h]
  rw [← hv]
/-- A store of one cell. -/
theorem ops_store {t : TypeId} {x y : Operand} {b i : Nat} {cs : List Value} {T : TypeId} {v : Value} (cs' : List Value) (hg : wantsO all l g = some true) (hok : (okO l ⟨d, .store t x y, ty, p, af, g⟩ && dOk n d) = true) (hx : lk l x = .pointer (some ⟨b, i, none⟩))
    (hy : lk l y = v) (hone : v.oneCell' = true) (hsz : (P.info? t).map (·.size) = some 1) (hb : Blk w b cs T) (hle : Nat.blt i cs.length = true) (hv : cs.set i v = cs')
    (next : ∀ w', Blk w' b cs' T → Chg [b] w.heap.size w w' → w'.heap.size = w.heap.size → Ops P ro B_ n ds k all rest (putD l d undef) w') : Ops P ro B_ n ds k all (⟨d, .store t x y, ty, p, af, g⟩ :: rest) l w := by
  refine ops_skp (w' := w.setCell ⟨b, i, none⟩ v) hg hok ?_ (next _ (hv ▸ hb.set i v) (Chg.setCell w ⟨b, i, none⟩ v) (by simp))
  obtain ⟨i0, hi0, hs0⟩ := Option.map_eq_some_iff.1 hsz
  have hlt : i < cs.length := by simpa [Nat.blt_eq] using hle
  have hc : (w.cell? ⟨b, i, none⟩) = some cs[i] := by rw [hb.cell]; simp [hlt]
  have hcells : v.cells = #[v] := by cases v <;> simp_all [Value.cells, Value.oneCell']
  have ha : (⟨b, i, none⟩ : Addr).add 0 = ⟨b, i, none⟩ := rfl
  have hst := run_store P w ⟨b, i, none⟩ v .plain hone
  simp [execOp, hx, hy, Instr.storeAt, Instr.sureAddr, storeVar, sizeOf, typeInfo, hi0, hs0, hcells, storeCells, ha, hst, hc, hb.free]
end
end Go.Kw
