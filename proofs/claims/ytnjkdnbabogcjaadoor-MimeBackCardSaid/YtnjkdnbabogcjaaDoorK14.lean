/- A strings.Builder of one's own; texts behind a row of one's own; addresses made unsafe and back: my own text. -/
import Derived.Test.YtnjkdnbabogcjaaDoorK13
import Derived.Lib.Builder
import Derived.Lib.AppendStr
import Derived.Laws.Externs
set_option linter.unusedVariables false
set_option linter.unusedSimpArgs false
namespace Go.Kw
open Go Go.RowKit
section
variable {P : Program} {ro : Option Nat} {B_ : Post} {n : Nat} {ds : List Deferred} {k : List Kont} {l : Env} {w : World} {all : Array Oper}
variable {rest : List Oper} {d : Option Tmp} {ty : TypeId} {p : String} {af : Array Edge} {g : Option (Nat × Bool)}
/-- A text behind a row of one's own. -/
theorem ops_appendRS {t u e : TypeId} {x y : Operand} {lo : Nat} {v : Value} {l1 l2 : Bytes} (hg : wantsO all l g = some true)
    (hok : (okO l ⟨d, .call { callee := .builtin .append, args := #[x, y], argTypes := #[t, u] }, ty, p, af, g⟩ && dOk n d) = true) (ht : sliceT P t = some e) (he : elemI P e = some (1, 1)) (hz : (P.info? e).bind (·.zero) = some (.int .u8 0)) (hu : strT P u = true) (hx : lk l x = v) (hy : lk l y = S l2)
    (h : OwnR w lo e v l1) (hl : lo ≤ w.heap.size) (hb : l1.length + l2.length ≤ 140737488355328)
    (next : ∀ v' w', OwnR w' lo e v' (l1 ++ l2) → Chg [] lo w w' → Ops P ro B_ n ds k all rest (putD l d v') w') :
    Ops P ro B_ n ds k all (⟨d, .call { callee := .builtin .append, args := #[x, y], argTypes := #[t, u] }, ty, p, af, g⟩ :: rest) l w := by
  obtain ⟨i, z, hi, hz1, hsz, hby, hzs⟩ := elemI_eq he
  rw [hi] at hz
  obtain ⟨v', w', hr, h8, h9, _⟩ := Lib.run_append_own_string (P := P) w lo t u ty e i (sliceT_eq ht) (strT_eq hu) hi hz hsz hby v l1.length (bcells l1) h ⟨l2.toArray⟩ (by rw [size_S]; simp only [maxLen]; omega) (by rw [size_S]; omega) hl
  refine ops_val (v := v') (w' := w') hg hok ?_ (next v' w' (by show World.ownsRow _ _ _ _ _ _ _; rw [List.length_append, bcells_append]; exact h8) (chg_grown_lo h h9 hl))
  simp [execOp, resolve, invoke, builtin, hx, hy, hr]
theorem Blk.shape {b : Nat} {cs : List Value} {T : TypeId} (h : Blk w b cs T) : w.shape? b = some (T, cs.length) := by
  unfold Blk at h
  simp [World.shape?, h]
/-- A pointer made unsafe. -/
theorem ops_toUnsafe {src dst t T : TypeId} {x : Operand} {b : Nat} {cs : List Value} {j : TypeInfo} (hg : wantsO all l g = some true) (hok : (okO l ⟨d, .convert src dst x, ty, p, af, g⟩ && dOk n d) = true) (hx : lk l x = .pointer (some ⟨b, 0, none⟩))
    (hs : P.underlying src = some (.pointer t)) (hd : P.underlying dst = some .unsafePointer) (ht : P.info? t = some j) (hj : j.size ≠ 0) (hb : Blk w b cs T) (hc : 0 < cs.length)
    (next : Ops P ro B_ n ds k all rest (putD l d (.pointer (some ⟨b, 0, none⟩))) w) : Ops P ro B_ n ds k all (⟨d, .convert src dst x, ty, p, af, g⟩ :: rest) l w := by
  refine ops_val (v := .pointer (some ⟨b, 0, none⟩)) (w' := w) hg hok ?_ next
  have := Lib.run_to_unsafe (P := P) w ⟨b, 0, none⟩ hs hd ht hj hb.shape hc
  simp [execOp, hx, this]
theorem ops_fromUnsafe {src dst u T : TypeId} {x : Operand} {b : Nat} {cs : List Value} {j : TypeInfo} (hg : wantsO all l g = some true) (hok : (okO l ⟨d, .convert src dst x, ty, p, af, g⟩ && dOk n d) = true) (hx : lk l x = .pointer (some ⟨b, 0, none⟩))
    (hs : P.underlying src = some .unsafePointer) (hd : P.underlying dst = some (.pointer u)) (hu : P.info? u = some j) (hb : Blk w b cs T) (hl : liesAt P P.depth T (cs.length / P.cellsOf T) 0 u 1 = true)
    (next : Ops P ro B_ n ds k all rest (putD l d (.pointer (some ⟨b, 0, none⟩))) w) : Ops P ro B_ n ds k all (⟨d, .convert src dst x, ty, p, af, g⟩ :: rest) l w := by
  refine ops_val (v := .pointer (some ⟨b, 0, none⟩)) (w' := w) hg hok ?_ next
  have := Lib.run_from_unsafe (P := P) w ⟨b, 0, none⟩ hs hd hu hb.shape hl
  simp [execOp, hx, this]
/-- abi.NoEscape. -/
theorem ops_noesc {f : FuncId} {fn : Func} {x : Operand} {v : Value} {at_ : Array TypeId} (hg : wantsO all l g = some true) (hok : (okO l ⟨d, .call { callee := .value (.func f), args := #[x], argTypes := at_ }, ty, p, af, g⟩ && dOk n d) = true) (hx : lk l x = v)
    (hf : P.funcs[f]? = some fn) (hname : (fn.name == "runtime.NumGoroutine") = false) (hb : fn.body.isNone = true) (hn : Extern.findNext fn = none) (he : Extern.find fn = some Extern.AbiNoEscape.same)
    (next : Ops P ro B_ n ds k all rest (putD l d v) w) : Ops P ro B_ n ds k all (⟨d, .call { callee := .value (.func f), args := #[x], argTypes := at_ }, ty, p, af, g⟩ :: rest) l w := by
  refine ops_val (v := v) (w' := w) hg hok ?_ next
  have h := run_callFunc_extern hf hname hb hn he #[v] w
  rw [Lib.run_noEscape] at h
  have e1 : lk l (.func f) = .func (.func f) #[] #[] := rfl
  simp [execOp, resolve, invoke, e1, hx, h, Deferred.ofValue, go_sem]
theorem run_equal_ptr {t el : TypeId} {a : Addr} {j : TypeInfo} (ht : P.underlying t = some (.pointer el)) (hj : P.info? el = some j) (hs : j.size ≠ 0) : (Op.equal t (.pointer (some a)) (.pointer (some a))).run P w = .ok true w := by
  show (Op.equalIn (9999 + 1) t (.pointer (some a)) (.pointer (some a))).run P w = _
  rw [Op.equalIn]
  simp [run_underlying ht, sizeOf, typeInfo, hj, hs, sameAddr]
/-- Pointers compared with themselves. -/
theorem ops_ptrEqT {t t' : TypeId} {x y : Operand} {a : Addr} {el : TypeId} (hg : wantsO all l g = some true) (hok : (okO l ⟨d, .binOp .eql t x y t', ty, p, af, g⟩ && dOk n d) = true) (hx : lk l x = .pointer (some a)) (hy : lk l y = .pointer (some a)) (ht : P.underlying t = some (.pointer el)) {j : TypeInfo} (hj : P.info? el = some j) (hs : j.size ≠ 0)
    (next : Ops P ro B_ n ds k all rest (putD l d (.bool true)) w) : Ops P ro B_ n ds k all (⟨d, .binOp .eql t x y t', ty, p, af, g⟩ :: rest) l w := by
  refine ops_val (v := .bool true) (w' := w) hg hok ?_ next
  simp [execOp, hx, hy, eqGuard, binOp, run_equal_ptr ht hj hs]
theorem ops_ptrNeF {t t' : TypeId} {x y : Operand} {a : Addr} {el : TypeId} (hg : wantsO all l g = some true) (hok : (okO l ⟨d, .binOp .neq t x y t', ty, p, af, g⟩ && dOk n d) = true) (hx : lk l x = .pointer (some a)) (hy : lk l y = .pointer (some a)) (ht : P.underlying t = some (.pointer el)) {j : TypeInfo} (hj : P.info? el = some j) (hs : j.size ≠ 0)
    (next : Ops P ro B_ n ds k all rest (putD l d (.bool false)) w) : Ops P ro B_ n ds k all (⟨d, .binOp .neq t x y t', ty, p, af, g⟩ :: rest) l w := by
  refine ops_val (v := .bool false) (w' := w) hg hok ?_ next
  simp [execOp, hx, hy, eqGuard, binOp, run_equal_ptr ht hj hs]
theorem OwnR.down {w : World} {lo lo' : Nat} {e : TypeId} {v : Value} {l : Bytes} (h : OwnR w lo e v l) (hb : lo' ≤ lo) : OwnR w lo' e v l :=
  ⟨h.1, h.2.elim .inl (fun ⟨g, cap, cur, h3, h4, h5⟩ => .inr ⟨g, cap, cur, h3, Nat.le_trans hb h4, h5⟩)⟩
theorem OwnR.keepB {w w' : World} {lo : Nat} {e : TypeId} {v : Value} {l : Bytes} {r : List Nat} {B : Nat} (h : OwnR w lo e v l) (c : Chg r B w w') (hB : w.heap.size ≤ B) (hr : ∀ b, lo ≤ b → b < w.heap.size → b ∉ r) : OwnR w' lo e v l := by
  obtain ⟨h1, h2⟩ := h
  refine ⟨h1, ?_⟩
  rcases h2 with h2 | ⟨g, cap, cur, h3, h4, h5, h6⟩
  · exact .inl h2
  · have hg := (Array.getElem?_eq_some_iff.1 h5).1
    exact .inr ⟨g, cap, cur, h3, h4, (c.block g (by omega) (hr g h4 hg)).trans h5, h6⟩
theorem OwnR.keep1 {w w' : World} {lo x : Nat} {e : TypeId} {v : Value} {l : Bytes} (h : OwnR w lo e v l) (c : Chg [x] w.heap.size w w') (hx : x < lo) : OwnR w' lo e v l := h.keepB c (Nat.le_refl _) (fun b h1 _ => by simp; omega)
end
/-- What is thrown with an error. -/
abbrev thrownE (T : TypeId) (e : Int) : List PanicEntry := [{ v := .iface T (.agg #[.int .i64 e]), recovered := false }]
end Go.Kw
