/- Conversions, texts, numbers: rules; my own text. -/
import Derived.Test.YtnjkdnbabogcjaaDoorK4
import Derived.WalkLawsBesides
set_option linter.unusedVariables false
set_option linter.unusedSimpArgs false
namespace Go.Kw
open Go Go.RowKit

section
variable {P : Program} {ro : Option Nat} {B_ : Post} {n : Nat} {ds : List Deferred} {k : List Kont} {l : Env} {w : World} {all : Array Oper}
variable {rest : List Oper} {d : Option Tmp} {ty : TypeId} {p : String} {af : Array Edge} {g : Option (Nat × Bool)}

/-! ### string(bytes), []byte(text) -/
def bytesT (P : Program) (t : TypeId) : Bool := match P.underlying t with | some (.slice e) => (match P.underlying e with | some (.int .u8) => true | _ => false) | _ => false
theorem bytesT_eq {t : TypeId} (h : bytesT P t = true) : ∃ e, P.underlying t = some (.slice e) ∧ P.underlying e = some (.int .u8) := by
  unfold bytesT at h
  split at h
  · rename_i e he
    split at h
    · rename_i hu; exact ⟨e, he, hu⟩
    · simp at h
  · simp at h
def strT (P : Program) (t : TypeId) : Bool := match P.underlying t with | some .string => true | _ => false
theorem strT_eq {t : TypeId} (h : strT P t = true) : P.underlying t = some .string := by
  unfold strT at h
  split at h
  · assumption
  · simp at h
theorem run_bytes_S {src dst : TypeId} (hs : bytesT P src = true) (hd : strT P dst = true) {lo hi : Nat} {v : Value} {l : Bytes} (h : Bs w lo hi v l) : (convert src dst v).run P w = .ok (S l) w := by
  obtain ⟨e, he, hu⟩ := bytesT_eq hs
  obtain ⟨hl, A, cap, rfl, h2, h3, h4, h5, h6, h7⟩ := h
  cases A with
  | none =>
    have hc : cap = 0 := h5 rfl
    have hm : l = [] := List.eq_nil_of_length_eq_zero (by omega)
    subst hm
    exact run_convert_bytes_nil w src e he hu _ _ dst (strT_eq hd)
  | some a =>
    rw [run_convert_bytes_string w src dst e _ _ cap he hu (strT_eq hd)]
    have hload : (loadCells a l.length).run P w = .ok ((l.map fun b => (b.toNat : Int)).map (Value.int .u8)).toArray w := by
      have := run_loadCells_list (P := P) w a (bcells l) (fun j v hj => by obtain ⟨a', ha', hc⟩ := h7 j v hj; cases ha'; exact hc)
      simpa [bcells, Function.comp_def] using this
    rw [run_bytesToString w _ _ cap _ hload, foldl_push_bytes]
    simp [ByteArray.empty, ByteArray.emptyWithCapacity, Function.comp_def]
    rfl
theorem ops_toS {src dst : TypeId} {x : Operand} {lo hi : Nat} {v : Value} {b : Bytes} (hg : wantsO all l g = some true) (hok : (okO l ⟨d, .convert src dst x, ty, p, af, g⟩ && dOk n d) = true) (hs : bytesT P src = true) (hd : strT P dst = true) (hx : lk l x = v)
    (h : Bs w lo hi v b) (next : Ops P ro B_ n ds k all rest (putD l d (S b)) w) : Ops P ro B_ n ds k all (⟨d, .convert src dst x, ty, p, af, g⟩ :: rest) l w := by
  refine ops_val (v := S b) (w' := w) hg hok ?_ next
  simp [execOp, hx, run_bytes_S hs hd h]
theorem own_bytesWorld {e : TypeId} (b : Bytes) (hb : b.length ≤ 140737488355328) : OwnB (Lib.bytesWorld w e ⟨b.toArray⟩) w.heap.size (.slice (some ⟨w.heap.size, 0, none⟩) b.length (grownCap w b.length 0 e)) b := by
  have hge := grownCap_ge w b.length 0 e
  have hcm : grownCap w b.length 0 e ≤ 9223372036854775807 := by have := grownCap_le_maxLen w b.length 0 e (by simp only [maxLen]; omega); simp only [maxLen] at this; omega
  have hsz : (Lib.bytesCells w e ⟨b.toArray⟩).size = grownCap w b.length 0 e := by
    simp [Lib.bytesCells, size_S]; omega
  have hcell : ∀ j, (Lib.bytesWorld w e ⟨b.toArray⟩).cell? ⟨w.heap.size, 0 + j, none⟩ = (Lib.bytesCells w e ⟨b.toArray⟩)[j]? := by
    intro j; simp [World.cell?, Lib.bytesWorld_at_new]
  refine ⟨by simp [bcells], by rw [Lib.bytesWorld_size]; omega, .inr ⟨_, 0, _, rfl, Nat.le_refl _, by rw [Lib.bytesWorld_size]; omega, hge, hcm, fun j x hj => ?_, fun j hj => ⟨?_, ?_⟩⟩⟩
  · rw [hcell, Lib.bytesCells]
    have hjl := (List.getElem?_eq_some_iff.1 hj).1
    rw [bcells_length] at hjl
    rw [Array.getElem?_append_left (by simpa using hjl)]
    simpa [bcells] using hj
  · rw [hcell, Array.getElem?_eq_getElem (by omega)]; rfl
  · simp only [World.frozen?, Lib.bytesWorld_at_new]
    simp
    omega
theorem chg_bytesWorld (e : TypeId) (s : ByteArray) : Chg [] w.heap.size w (Lib.bytesWorld w e s) :=
  ⟨rfl, rfl, rfl, by rw [Lib.bytesWorld_size]; omega, Nat.le_refl _, fun b hb _ => Lib.bytesWorld_at_old w e s b hb⟩
theorem ops_toB {src dst : TypeId} {x : Operand} {b : Bytes} (hg : wantsO all l g = some true) (hok : (okO l ⟨d, .convert src dst x, ty, p, af, g⟩ && dOk n d) = true) (hs : strT P src = true) (hd : bytesT P dst = true) (hx : lk l x = S b) (hb : b.length ≤ 140737488355328)
    (next : ∀ v w', OwnB w' w.heap.size v b → Chg [] w.heap.size w w' → w'.heap.size = w.heap.size + 1 → Ops P ro B_ n ds k all rest (putD l d v) w') : Ops P ro B_ n ds k all (⟨d, .convert src dst x, ty, p, af, g⟩ :: rest) l w := by
  obtain ⟨e, he, hu⟩ := bytesT_eq hd
  refine ops_val hg hok ?_ (next _ _ (own_bytesWorld (e := e) b hb) (chg_bytesWorld e _) (Lib.bytesWorld_size _ _ _))
  have := Lib.run_convert_string_bytes (P := P) w src dst e ⟨b.toArray⟩ (strT_eq hs) he hu
  simp only [execOp, hx]
  show ((convert src dst (S b)) >>= fun v => pure (Next.value v)).run P w = _
  rw [Sem.run_bind, this]
  rfl

/-! ### Texts -/
theorem cat_S (a b : Bytes) : (⟨a.toArray⟩ : ByteArray) ++ ⟨b.toArray⟩ = ⟨(a ++ b).toArray⟩ := by
  apply ByteArray.ext
  rw [ByteArray.data_append]
  apply Array.ext'
  simp
theorem ops_cat {t t' : TypeId} {x y : Operand} {a b : Bytes} (hg : wantsO all l g = some true) (hok : (okO l ⟨d, .binOp .add t x y t', ty, p, af, g⟩ && dOk n d) = true) (hx : lk l x = S a) (hy : lk l y = S b) (hb : a.length + b.length ≤ 9223372036854775807)
    (next : Ops P ro B_ n ds k all rest (putD l d (S (a ++ b))) w) : Ops P ro B_ n ds k all (⟨d, .binOp .add t x y t', ty, p, af, g⟩ :: rest) l w := by
  refine ops_val (v := S (a ++ b)) (w' := w) hg hok ?_ next
  have h : ¬ (IntKind.max .i64 < ((a.length + b.length : Nat) : Int)) := by
    show ¬ ((9223372036854775807 : Int) < _)
    omega
  have h' : ¬ (IntKind.max .i64 < ((a.length : Int) + (b.length : Int))) := by
    show ¬ ((9223372036854775807 : Int) < _)
    omega
  simp [execOp, hx, hy, eqGuard, binOp, Op.stringOp, size_S, h', cat_S]
  omega
theorem ops_eqS {t t' : TypeId} {x y : Operand} {a b : Bytes} (hg : wantsO all l g = some true) (hok : (okO l ⟨d, .binOp .eql t x y t', ty, p, af, g⟩ && dOk n d) = true) (hx : lk l x = S a) (hy : lk l y = S b)
    (next : Ops P ro B_ n ds k all rest (putD l d (.bool (decide (a = b)))) w) : Ops P ro B_ n ds k all (⟨d, .binOp .eql t x y t', ty, p, af, g⟩ :: rest) l w := by
  refine ops_val (v := .bool (decide (a = b))) (w' := w) hg hok ?_ next
  simp [execOp, hx, hy, eqGuard, binOp, Op.stringOp]
  rw [Bool.eq_iff_iff]; simp
theorem ops_neS {t t' : TypeId} {x y : Operand} {a b : Bytes} (hg : wantsO all l g = some true) (hok : (okO l ⟨d, .binOp .neq t x y t', ty, p, af, g⟩ && dOk n d) = true) (hx : lk l x = S a) (hy : lk l y = S b)
    (next : Ops P ro B_ n ds k all rest (putD l d (.bool (decide (a ≠ b)))) w) : Ops P ro B_ n ds k all (⟨d, .binOp .neq t x y t', ty, p, af, g⟩ :: rest) l w := by
  refine ops_val (v := .bool (decide (a ≠ b))) (w' := w) hg hok ?_ next
  simp [execOp, hx, hy, eqGuard, binOp, Op.stringOp]
  rw [Bool.eq_iff_iff]; simp
theorem ops_at {t : TypeId} {x y : Operand} {b : Bytes} {i : Int} {kd : IntKind} (j : Nat) (hg : wantsO all l g = some true) (hok : (okO l ⟨d, .index t x y, ty, p, af, g⟩ && dOk n d) = true) (ht : strT P t = true) (hx : lk l x = S b) (hy : lk l y = .int kd i)
    (hi : i = (j : Int)) (hj : j < b.length) (next : Ops P ro B_ n ds k all rest (putD l d (.int .u8 (bAt b j))) w) : Ops P ro B_ n ds k all (⟨d, .index t x y, ty, p, af, g⟩ :: rest) l w := by
  refine ops_val (v := .int .u8 (bAt b j)) (w' := w) hg hok ?_ next
  subst hi
  have h1 : (⟨b.toArray⟩ : ByteArray)[j]? = some b[j] := by
    rw [getElem?_pos (⟨b.toArray⟩ : ByteArray) j hj]
    rfl
  simp [execOp, hx, hy, Instr.index, asIntOf, run_underlying (strT_eq ht), h1, bAt, hj]
theorem extract_S (b : Bytes) (i j : Nat) : (⟨b.toArray⟩ : ByteArray).extract i j = ⟨((b.drop i).take (j - i)).toArray⟩ := by
  apply ByteArray.ext
  rw [ByteArray.data_extract]
  apply Array.ext'
  simp [List.take_drop]
theorem ops_partS {t : TypeId} {x y z : Operand} {s : Bytes} {i i' : Int} {kd kd' : IntKind} (a b : Nat) (hg : wantsO all l g = some true) (hok : (okO l ⟨d, .slice t x (some y) (some z) none, ty, p, af, g⟩ && dOk n d) = true) (ht : strT P t = true)
    (hx : lk l x = S s) (hy : lk l y = .int kd i) (hz : lk l z = .int kd' i') (ha : i = (a : Int)) (hb : i' = (b : Int)) (hab : a ≤ b) (hm : b ≤ s.length)
    (next : Ops P ro B_ n ds k all rest (putD l d (S ((s.drop a).take (b - a)))) w) : Ops P ro B_ n ds k all (⟨d, .slice t x (some y) (some z) none, ty, p, af, g⟩ :: rest) l w := by
  refine ops_val (v := S ((s.drop a).take (b - a))) (w' := w) hg hok ?_ next
  subst ha; subst hb
  simp [execOp, Instr.sliceAt, hx, hy, hz, run_underlying (strT_eq ht), Instr.slice, Instr.sliceBounds, Instr.sliceBound, asIntOf, size_S, hm, hab, extract_S]
theorem ops_fromS {t : TypeId} {x y : Operand} {s : Bytes} {i : Int} {kd : IntKind} (a : Nat) (hg : wantsO all l g = some true) (hok : (okO l ⟨d, .slice t x (some y) none none, ty, p, af, g⟩ && dOk n d) = true) (ht : strT P t = true)
    (hx : lk l x = S s) (hy : lk l y = .int kd i) (ha : i = (a : Int)) (hm : a ≤ s.length)
    (next : Ops P ro B_ n ds k all rest (putD l d (S (s.drop a))) w) : Ops P ro B_ n ds k all (⟨d, .slice t x (some y) none none, ty, p, af, g⟩ :: rest) l w := by
  refine ops_val (v := S (s.drop a)) (w' := w) hg hok ?_ next
  subst ha
  have h1 : (s.drop a).take (s.length - a) = s.drop a := List.take_of_length_le (by simp)
  simp [execOp, Instr.sliceAt, hx, hy, run_underlying (strT_eq ht), Instr.slice, Instr.sliceBounds, Instr.sliceBound, asIntOf, size_S, hm, extract_S, h1]
theorem ops_uptoS {t : TypeId} {x z : Operand} {s : Bytes} {i' : Int} {kd' : IntKind} (b : Nat) (hg : wantsO all l g = some true) (hok : (okO l ⟨d, .slice t x none (some z) none, ty, p, af, g⟩ && dOk n d) = true) (ht : strT P t = true)
    (hx : lk l x = S s) (hz : lk l z = .int kd' i') (hb : i' = (b : Int)) (hm : b ≤ s.length)
    (next : Ops P ro B_ n ds k all rest (putD l d (S (s.take b))) w) : Ops P ro B_ n ds k all (⟨d, .slice t x none (some z) none, ty, p, af, g⟩ :: rest) l w := by
  refine ops_val (v := S (s.take b)) (w' := w) hg hok ?_ next
  subst hb
  simp [execOp, Instr.sliceAt, hx, hz, run_underlying (strT_eq ht), Instr.slice, Instr.sliceBounds, Instr.sliceBound, asIntOf, size_S, hm, extract_S]

/-! ### Whole numbers within their range -/
theorem wrap_in (kd : IntKind) (z : Int) (h1 : kd.min ≤ z) (h2 : z ≤ kd.max) : kd.wrap z = z := by
  cases kd <;> simp only [IntKind.wrap, IntKind.min, IntKind.max, IntKind.signed, IntKind.bits] at * <;> simp at * <;> omega
theorem ops_add {t t' : TypeId} {x y : Operand} {a b : Int} {kd : IntKind} (hg : wantsO all l g = some true) (hok : (okO l ⟨d, .binOp .add t x y t', ty, p, af, g⟩ && dOk n d) = true) (hx : lk l x = .int kd a) (hy : lk l y = .int kd b) (h1 : kd.min ≤ a + b) (h2 : a + b ≤ kd.max)
    (next : Ops P ro B_ n ds k all rest (putD l d (.int kd (a + b))) w) : Ops P ro B_ n ds k all (⟨d, .binOp .add t x y t', ty, p, af, g⟩ :: rest) l w := by
  refine ops_val (v := .int kd (a + b)) (w' := w) hg hok ?_ next
  simp [execOp, hx, hy, eqGuard, binOp, Op.intArith, wrap_in kd _ h1 h2]
theorem ops_sub_ {t t' : TypeId} {x y : Operand} {a b : Int} {kd : IntKind} (hg : wantsO all l g = some true) (hok : (okO l ⟨d, .binOp .sub t x y t', ty, p, af, g⟩ && dOk n d) = true) (hx : lk l x = .int kd a) (hy : lk l y = .int kd b) (h1 : kd.min ≤ a - b) (h2 : a - b ≤ kd.max)
    (next : Ops P ro B_ n ds k all rest (putD l d (.int kd (a - b))) w) : Ops P ro B_ n ds k all (⟨d, .binOp .sub t x y t', ty, p, af, g⟩ :: rest) l w := by
  refine ops_val (v := .int kd (a - b)) (w' := w) hg hok ?_ next
  simp [execOp, hx, hy, eqGuard, binOp, Op.intArith, wrap_in kd _ h1 h2]
theorem ops_mul {t t' : TypeId} {x y : Operand} {a b : Int} {kd : IntKind} (hg : wantsO all l g = some true) (hok : (okO l ⟨d, .binOp .mul t x y t', ty, p, af, g⟩ && dOk n d) = true) (hx : lk l x = .int kd a) (hy : lk l y = .int kd b) (h1 : kd.min ≤ a * b) (h2 : a * b ≤ kd.max)
    (next : Ops P ro B_ n ds k all rest (putD l d (.int kd (a * b))) w) : Ops P ro B_ n ds k all (⟨d, .binOp .mul t x y t', ty, p, af, g⟩ :: rest) l w := by
  refine ops_val (v := .int kd (a * b)) (w' := w) hg hok ?_ next
  simp [execOp, hx, hy, eqGuard, binOp, Op.intArith, wrap_in kd _ h1 h2]
def intT (P : Program) (t : TypeId) : Option IntKind := match P.underlying t with | some (.int k) => some k | _ => none
theorem intT_eq {t : TypeId} {kd : IntKind} (h : intT P t = some kd) : P.underlying t = some (.int kd) := by
  unfold intT at h
  split at h
  · rename_i k hk; simp at h; subst h; exact hk
  · simp at h
/-- A number in another kind's range. -/
theorem ops_conv {src dst : TypeId} {x : Operand} {a : Int} {kd kd' : IntKind} (hg : wantsO all l g = some true) (hok : (okO l ⟨d, .convert src dst x, ty, p, af, g⟩ && dOk n d) = true) (hs : intT P src = some kd) (hd : intT P dst = some kd') (hx : lk l x = .int kd a) (h1 : kd'.min ≤ a) (h2 : a ≤ kd'.max)
    (next : Ops P ro B_ n ds k all rest (putD l d (.int kd' a)) w) : Ops P ro B_ n ds k all (⟨d, .convert src dst x, ty, p, af, g⟩ :: rest) l w := by
  refine ops_val (v := .int kd' a) (w' := w) hg hok ?_ next
  simp [execOp, hx, convert, run_underlying (intT_eq hs), run_underlying (intT_eq hd), Conv.intToInt, wrap_in kd' _ h1 h2]
end
end Go.Kw
