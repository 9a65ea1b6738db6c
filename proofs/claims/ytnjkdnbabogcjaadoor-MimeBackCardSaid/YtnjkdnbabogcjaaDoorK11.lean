/- Ranges over texts; slices of slices of bytes; rows that are one's own: my own text. -/
import Derived.Test.YtnjkdnbabogcjaaDoorK10
import Derived.Lib.OthersKept
import Derived.Laws.RangeAny
import Derived.Laws.OwnMore
set_option linter.unusedVariables false
set_option linter.unusedSimpArgs false
namespace Go.Kw
open Go Go.RowKit

section
variable {P : Program} {fn : Func} {R : Ending → World → Prop} {ro : Option Nat} {B_ : Post} {n : Nat} {ds : List Deferred} {k : List Kont} {l : Env} {w : World} {all : Array Oper}
variable {rest : List Oper} {d : Option Tmp} {ty : TypeId} {p : String} {af : Array Edge} {g : Option (Nat × Bool)}
/-- The beginning of a range over a text. -/
theorem ops_range {t : TypeId} {x : Operand} {s : Bytes} (hg : wantsO all l g = some true) (hok : (okO l ⟨d, .range t x, ty, p, af, g⟩ && dOk n d) = true) (ht : strT P t = true) (hx : lk l x = S s)
    (next : ∀ b w', b = w.heap.size → Ob w' b (.stringIter ⟨s.toArray⟩ 0) → Chg [] w.heap.size w w' → w'.heap.size = w.heap.size + 1 → Ops P ro B_ n ds k all rest (putD l d (.pointer (some ⟨b, 0, none⟩))) w') : Ops P ro B_ n ds k all (⟨d, .range t x, ty, p, af, g⟩ :: rest) l w := by
  refine ops_val (v := .pointer (some ⟨w.heap.size, 0, none⟩)) (w' := w.alloc (.stringIter ⟨s.toArray⟩ 0)) hg hok ?_ (next _ _ rfl (World.alloc_heap_new w _) (Chg.alloc w _) (by simp))
  have h := run_range_string (P := P) w t ⟨s.toArray⟩ (strT_eq ht)
  have e : w.iter ⟨s.toArray⟩ 0 = w.alloc (.stringIter ⟨s.toArray⟩ 0) := rfl
  rw [e] at h
  simp [execOp, hx, h]
theorem iterAt_chg (w : World) (b : Nat) (s : ByteArray) (q : Nat) : Chg [b] w.heap.size w (w.iterAt b s q) :=
  ⟨rfl, rfl, rfl, by simp [World.iterAt], Nat.le_refl _, fun x _ hx => by
    have : b ≠ x := fun e => hx (by simp [e])
    simp [World.iterAt, Array.getElem?_setIfInBounds, this]⟩
/-- One step of it. -/
theorem ops_next {x : Operand} {s : Bytes} {b pos : Nat} (hg : wantsO all l g = some true) (hok : (okO l ⟨d, .next x true, ty, p, af, g⟩ && dOk n d) = true) (hx : lk l x = .pointer (some ⟨b, 0, none⟩))
    (hb : Ob w b (.stringIter ⟨s.toArray⟩ pos))
    (h1 : ∀ (c : Int) (q : Nat) (w' : World), pos < s.length → ((bAt s pos < 128 ∧ c = bAt s pos ∧ q = pos + 1) ∨ (128 ≤ bAt s pos ∧ 128 ≤ c ∧ pos < q)) → Ob w' b (.stringIter ⟨s.toArray⟩ q) → Chg [b] w.heap.size w w' → w'.heap.size = w.heap.size →
      Ops P ro B_ n ds k all rest (putD l d (.tuple #[.bool true, .int .i64 pos, .int .i32 c])) w')
    (h2 : ¬ pos < s.length → Ops P ro B_ n ds k all rest (putD l d (.tuple #[.bool false])) w) : Ops P ro B_ n ds k all (⟨d, .next x true, ty, p, af, g⟩ :: rest) l w := by
  by_cases hp : pos < s.length
  · have hs : pos < (⟨s.toArray⟩ : ByteArray).size := hp
    have hbyte : (((⟨s.toArray⟩ : ByteArray)[pos]'hs).toNat : Int) = bAt s pos := by
      unfold bAt; rw [List.getD_eq_getElem?_getD, List.getElem?_eq_getElem hp]; rfl
    have hr := Lib.run_next_any_at (P := P) w b ⟨s.toArray⟩ pos ty hb hs
    refine ops_val (v := .tuple #[.bool true, .int .i64 pos, .int .i32 (Utf8.decode ⟨s.toArray⟩ pos).1]) (w' := w.iterAt b ⟨s.toArray⟩ (pos + (Utf8.decode ⟨s.toArray⟩ pos).2)) hg hok ?_ (h1 _ _ _ hp ?_ (Lib.iterAt_heap w b _ pos _ hb) (iterAt_chg _ _ _ _) (by simp [World.iterAt]))
    · simp [execOp, hx, hr]
    · by_cases ha : ((⟨s.toArray⟩ : ByteArray)[pos]'hs).toNat < 128
      · have := decode_ascii _ pos hs ha
        refine .inl ⟨by omega, ?_, ?_⟩ <;> rw [this]
        exact hbyte
      · have := decode_high _ pos hs (by omega)
        exact .inr ⟨by omega, by omega, by omega⟩
  · have hr := Lib.run_next_end_at (P := P) w b ⟨s.toArray⟩ pos ty hb hp
    refine ops_val (v := .tuple #[.bool false]) (w' := w) hg hok ?_ (h2 hp)
    simp [execOp, hx, hr]

/-! ### Literals whose values are one cell each -/
def fill1 (cells : Array Value) : List (Nat × Value) → Option (Array Value)
  | [] => some cells
  | (i, v) :: r => bif Nat.blt i cells.size then fill1 (cells.setIfInBounds i v) r else none
theorem fill_one : ∀ (parts : List (Nat × Value)) (cells out : Array Value), (∀ q, q ∈ parts → q.2.cells = #[q.2]) → fill1 cells parts = some out → Instr.fill (fun q => some (q * 1, 1)) cells parts = some out
  | [], cells, out, _, h => h
  | (i, v) :: r, cells, out, h1, h => by
    unfold fill1 at h
    cases hb : Nat.blt i cells.size with
    | false => rw [hb] at h; simp at h
    | true =>
      rw [hb] at h
      simp only [cond_true] at h
      have hlt : i < cells.size := by simpa [Nat.blt_eq] using hb
      have hv : v.cells = #[v] := h1 (i, v) (by simp)
      have ih := fill_one r _ out (fun q hq => h1 q (by simp [hq])) h
      unfold Instr.fill
      simp only [hv]
      have : ¬ (cells.size < i + 1) := by omega
      simp [this]
      simpa using ih
def litV (P : Program) (t : TypeId) (len : Nat) (parts : Array (Nat × Value)) : Option (TypeId × List Value) :=
  match P.underlying t with
  | some (.slice e) => match P.info? e with
    | none => none
    | some i => bif Nat.beq i.size 1 && Nat.ble len 16777216 && Nat.blt 0 len then
        match i.zero with
        | none => none
        | some z => match fill1 ((Array.range (len * i.size)).map (z.cells[· % z.cells.size]!)) parts.toList with
          | none => none
          | some cells => some (e, cells.toList)
      else none
  | _ => none
theorem ops_litV {t e : TypeId} {len : Nat} {parts : Array (Nat × Operand)} (cs : List Value) (hg : wantsO all l g = some true) (hok : (okO l ⟨d, .buildSlice t len parts, ty, p, af, g⟩ && dOk n d) = true)
    (hb : litV P t len (parts.map fun (i, x) => (i, lk l x)) = some (e, cs)) (hpv : (parts.map fun (_, x) => lk l x).toList = cs) (hv : ∀ v, v ∈ cs → v.cells = #[v]) (hl : cs.length = len * 1) (hln : len ≤ 9223372036854775807)
    (next : ∀ v w', Own w' w.heap.size v 1 len cs ∧ v.ownBlock = some w.heap.size → Chg [] w.heap.size w w' → w'.heap.size = w.heap.size + 1 → Ops P ro B_ n ds k all rest (putD l d v) w') : Ops P ro B_ n ds k all (⟨d, .buildSlice t len parts, ty, p, af, g⟩ :: rest) l w := by
  refine ops_val (v := .slice (some ⟨w.heap.size, 0, none⟩) len len) (w' := w.alloc (.cells cs.toArray e)) hg hok ?_ (next _ _ ⟨⟨hl, by simp, .inr ⟨w.heap.size, 0, len, rfl, Nat.le_refl _, by simp, Nat.le_refl _, hln, fun j x hj => ?_, fun j hj => ⟨?_, ?_⟩⟩⟩, rfl⟩ (Chg.alloc w _) (by simp))
  · have hone : ∀ q, q ∈ (parts.map fun (i, x) => (i, lk l x)).toList → q.2.cells = #[q.2] := by
      intro q hq
      refine hv q.2 ?_
      rw [← hpv]
      simp only [Array.toList_map, List.mem_map] at hq ⊢
      obtain ⟨x, hx, rfl⟩ := hq
      exact ⟨x, hx, rfl⟩
    obtain ⟨ps, hps⟩ : ∃ ps, ps = (parts.map fun (i, x) => (i, lk l x)) := ⟨_, rfl⟩
    have hps' : Array.map (fun x => (x.fst, lk l x.snd)) parts = ps := hps.symm
    rw [← hps] at hb hone
    unfold litV at hb
    split at hb
    · rename_i e0 ht
      split at hb
      · simp at hb
      · rename_i i hi
        cases hc : (Nat.beq i.size 1 && Nat.ble len 16777216 && Nat.blt 0 len) with
        | false => rw [hc] at hb; simp at hb
        | true =>
          rw [hc] at hb
          simp only [cond_true] at hb
          simp only [Bool.and_eq_true] at hc
          have hs1 := Nat.eq_of_beq_eq_true hc.1.1
          have hle := Nat.le_of_ble_eq_true hc.1.2
          have h0 : 0 < len := by simpa [Nat.blt_eq] using hc.2
          split at hb
          · simp at hb
          · rename_i z hz
            split at hb
            · simp at hb
            · rename_i cells hf
              simp at hb
              obtain ⟨rfl, rfl⟩ := hb
              have hfill := fill_one _ _ _ hone hf
              rw [hs1] at hfill
              have h0' : ¬ (len * 1 > 2 ^ 24) := by omega
              have h00 : ¬ (len * 1 = 0) := by omega
              have hrun : (Instr.buildSlice t len ps).run P w = .ok (.slice (some ⟨w.heap.size, 0, none⟩) len len) (w.alloc (.cells cells e0)) := by
                simp only [Instr.buildSlice, Sem.run_bind, run_underlying ht, Result.andThen_ok]
                simp only [sizeOf, typeInfo, Sem.run_bind, run_program, Result.andThen_ok, hi, Sem.run_pure, hs1, if_neg h0', if_neg h00, zeroValue, hz, hfill, newRow, run_newObj]
                rfl
              simp [execOp, hps', hrun]
    · simp at hb
  · simp; exact hj
  · simp; omega
  · simp

/-! ### Slices of slices of bytes -/
def ElB (w : World) (H : Nat) (g : Option Nat) (v : Value) (l : Bytes) : Prop := ∃ lo hi, Bs w lo hi v l ∧ hi ≤ H ∧ ∀ b, g = some b → b < lo ∨ hi ≤ b
def AllB (w : World) (H : Nat) (g : Option Nat) : List Value → List Bytes → Prop
  | [], [] => True
  | v :: vs, l :: ls => ElB w H g v l ∧ AllB w H g vs ls
  | _, _ => False
theorem ElB.keep {w w' : World} {H B : Nat} {g g' : Option Nat} {r : List Nat} {v : Value} {l : Bytes} (h : ElB w H g v l) (c : Chg r B w w') (hB : H ≤ B) (hr : ∀ b, b ∈ r → g = some b ∨ H ≤ b) (hg : ∀ b, g' = some b → g = some b ∨ H ≤ b) {H' : Nat} (hH : H ≤ H') : ElB w' H' g' v l := by
  obtain ⟨lo, hi, h1, h2, h3⟩ := h
  refine ⟨lo, hi, Sl.keep h1 c (by omega) (fun b hl hh hm => ?_), by omega, fun b hb => ?_⟩
  · rcases hr b hm with h | h
    · have := h3 b h; omega
    · omega
  · rcases hg b hb with h | h
    · exact h3 b h
    · omega
theorem AllB.keep {w w' : World} {H B : Nat} {g g' : Option Nat} {r : List Nat} (c : Chg r B w w') (hB : H ≤ B) (hr : ∀ b, b ∈ r → g = some b ∨ H ≤ b) (hg : ∀ b, g' = some b → g = some b ∨ H ≤ b) {H' : Nat} (hH : H ≤ H') : ∀ {vs : List Value} {ls : List Bytes}, AllB w H g vs ls → AllB w' H' g' vs ls
  | [], [], _ => trivial
  | v :: vs, l :: ls, h => ⟨h.1.keep c hB hr hg hH, AllB.keep c hB hr hg hH h.2⟩
  | [], _ :: _, h => h.elim
  | _ :: _, [], h => h.elim
theorem AllB.len {w : World} {H : Nat} {g : Option Nat} : ∀ {vs : List Value} {ls : List Bytes}, AllB w H g vs ls → vs.length = ls.length
  | [], [], _ => rfl
  | v :: vs, l :: ls, h => by simp [AllB.len h.2]
  | [], _ :: _, h => h.elim
  | _ :: _, [], h => h.elim
theorem AllB.append {w : World} {H : Nat} {g : Option Nat} : ∀ {vs us : List Value} {ls ms : List Bytes}, AllB w H g vs ls → AllB w H g us ms → AllB w H g (vs ++ us) (ls ++ ms)
  | [], _, [], _, _, h => h
  | v :: vs, us, l :: ls, ms, h, h' => ⟨h.1, AllB.append h.2 h'⟩
  | [], _, _ :: _, _, h, _ => h.elim
  | _ :: _, _, [], _, h, _ => h.elim
theorem AllB.get {w : World} {H : Nat} {g : Option Nat} : ∀ {vs : List Value} {ls : List Bytes} (j : Nat), AllB w H g vs ls → j < ls.length → ∃ v, vs[j]? = some v ∧ ElB w H g v (ls.getD j [])
  | [], [], j, _, hj => by simp at hj
  | v :: vs, l :: ls, 0, h, _ => ⟨v, rfl, h.1⟩
  | v :: vs, l :: ls, j + 1, h, hj => by
    obtain ⟨u, h1, h2⟩ := AllB.get j h.2 (by simpa using hj)
    exact ⟨u, by simpa using h1, by simpa using h2⟩
  | [], _ :: _, _, h, _ => h.elim
  | _ :: _, [], _, h, _ => h.elim
/-- A list of bytes that is read. -/
def BBs (w : World) (H : Nat) (v : Value) (ls : List Bytes) : Prop := ∃ vs lo hi, hi ≤ H ∧ Sl w lo hi v 1 ls.length vs ∧ AllB w H none vs ls
theorem BBs.keep0 {w w' : World} {H B : Nat} {v : Value} {ls : List Bytes} (h : BBs w H v ls) (c : Chg [] B w w') (hB : H ≤ B) : BBs w' H v ls := by
  obtain ⟨vs, lo, hi, h1, h2, h3⟩ := h
  exact ⟨vs, lo, hi, h1, h2.keep0 c (by omega), AllB.keep c hB (by simp) (by simp) (Nat.le_refl _) h3⟩
theorem bb_cell {w : World} {H : Nat} {vs : List Value} {ls : List Bytes} {a : Addr} {j : Nat} (hc : ∀ q, q < 1 → w.cell? (a.add q) = vs[j * 1 + q]?) (ha : AllB w H none vs ls) (hj : j < ls.length) : ∃ v lo hi, w.cell? a = some v ∧ Bs w lo hi v (ls.getD j []) ∧ hi ≤ H := by
  obtain ⟨v, h1, lo, hi, h2, h3, _⟩ := AllB.get j ha hj
  refine ⟨v, lo, hi, ?_, h2, h3⟩
  have := hc 0 (by omega)
  rw [Nat.mul_one, Nat.add_zero, h1] at this
  exact this
/-- A list of bytes that grows. -/
def OwnBB (w : World) (lo : Nat) (v : Value) (ls : List Bytes) : Prop := ∃ vs, Own w lo v 1 ls.length vs ∧ AllB w w.heap.size v.ownBlock vs ls
theorem OwnBB.bbs {w : World} {lo : Nat} {v : Value} {ls : List Bytes} (h : OwnBB w lo v ls) : BBs w w.heap.size v ls := by
  obtain ⟨vs, h1, h2⟩ := h
  exact ⟨vs, lo, w.heap.size, Nat.le_refl _, h1.sl, AllB.keep (Chg.refl [] w) (Nat.le_refl _) (by simp) (by simp) (Nat.le_refl _) h2⟩
theorem OwnBB.nil (w : World) (lo : Nat) (h : lo ≤ w.heap.size) : OwnBB w lo (.slice none 0 0) [] := ⟨[], Own.nil w lo 1 h, trivial⟩
theorem OwnBB.keep0 {w w' : World} {lo : Nat} {v : Value} {ls : List Bytes} (h : OwnBB w lo v ls) (c : Chg [] w.heap.size w w') : OwnBB w' lo v ls := by
  obtain ⟨vs, h1, h2⟩ := h
  exact ⟨vs, h1.keep0 c, AllB.keep c (Nat.le_refl _) (by simp) (fun b h => .inl h) c.size h2⟩
theorem ElB.of {w : World} {lo hi : Nat} {v : Value} {l : Bytes} (h : Bs w lo hi v l) {H : Nat} {g : Option Nat} (hH : hi ≤ H) (hg : ∀ b, g = some b → b < lo ∨ hi ≤ b) : ElB w H g v l := ⟨lo, hi, h, hH, hg⟩
/-- A list written out. -/
theorem ownBB_lit {w w' : World} {v : Value} {vs : List Value} {ls : List Bytes} {m : Nat} (hm : m = ls.length) (h : Own w' w.heap.size v 1 m vs ∧ v.ownBlock = some w.heap.size) (c : Chg [] w.heap.size w w') (ha : AllB w w.heap.size none vs ls) : OwnBB w' w.heap.size v ls := by
  subst hm
  refine ⟨vs, h.1, AllB.keep c (Nat.le_refl _) (by simp) (fun b hb => .inr ?_) c.size ha⟩
  rw [h.2] at hb; cases hb; exact Nat.le_refl _
/-- One more. -/
theorem ops_appendBB {t tx e : TypeId} {x y : Operand} {lo by_ : Nat} {v v2 : Value} {l1 l2 : List Bytes} {us : List Value} (hg : wantsO all l g = some true)
    (hok : (okO l ⟨d, .call { callee := .builtin .append, args := #[x, y], argTypes := #[t, tx] }, ty, p, af, g⟩ && dOk n d) = true) (ht : sliceT P t = some e) (htx : sliceT P tx = some e) (he : elemI P e = some (1, by_)) (hx : lk l x = v) (hy : lk l y = v2)
    (h : OwnBB w lo v l1) {lo2 hi2 : Nat} (hs : Sl w lo2 hi2 v2 1 l2.length us) (ha : AllB w w.heap.size v.ownBlock us l2) (hu : ∀ u ∈ us, u.oneCell' = true) (hb : (l1.length + l2.length) * by_ ≤ 140737488355328) (h63 : l1.length + l2.length ≤ 9223372036854775807)
    (next : ∀ v' w', OwnBB w' lo v' (l1 ++ l2) → Chg [] lo w w' → Chg v.ownBlock.toList w.heap.size w w' → Ops P ro B_ n ds k all rest (putD l d v') w') :
    Ops P ro B_ n ds k all (⟨d, .call { callee := .builtin .append, args := #[x, y], argTypes := #[t, tx] }, ty, p, af, g⟩ :: rest) l w := by
  obtain ⟨vs, h1, h2⟩ := h
  refine ops_append hg hok ht he hx hy h1 (hs.src htx hu) hb h63 (fun v' w' h3 h4 h5 h6 => next v' w' ⟨vs ++ us, by rw [List.length_append]; exact h3, ?_⟩ h4 h5)
  refine AllB.keep h5 (Nat.le_refl _) (fun b hb => .inl (by simpa using hb)) (fun b hb => ?_) h5.size (AllB.append h2 ha)
  rcases h6 with h6 | h6
  · exact .inl (by rw [← h6]; exact hb)
  · rw [h6] at hb; cases hb; exact .inr (Nat.le_refl _)
theorem sl_one {v : Value} {lo hi : Nat} {l : Bytes} (h : Bs w lo hi v l) : v.oneCell' = true := by
  obtain ⟨_, A, cap, rfl, _⟩ := h; rfl
theorem Own.slice {lo sz m : Nat} {v : Value} {cs : List Value} (h : Own w lo v sz m cs) : ∀ b, v.ownBlock = some b → lo ≤ b ∧ b < w.heap.size := by
  intro b hb
  obtain ⟨_, _, h2⟩ := h
  rcases h2 with ⟨rfl, _⟩ | ⟨g, off, cap, rfl, h3, h4, _⟩
  · simp [Value.ownBlock] at hb
  · simp [Value.ownBlock] at hb; omega

theorem OwnBB.slice {lo : Nat} {v : Value} {ls : List Bytes} (h : OwnBB w lo v ls) : ∀ b, v.ownBlock = some b → lo ≤ b ∧ b < w.heap.size := by
  obtain ⟨vs, h1, _⟩ := h
  exact h1.slice

theorem OwnBB.down {lo lo' : Nat} {v : Value} {ls : List Bytes} (h : OwnBB w lo v ls) (hl : lo' ≤ lo) : OwnBB w lo' v ls := by
  obtain ⟨vs, h1, h2⟩ := h
  exact ⟨vs, h1.down hl, h2⟩

theorem Sl.one {lo hi sz m : Nat} {v : Value} {cs : List Value} (h : Sl w lo hi v sz m cs) : v.oneCell' = true := by
  obtain ⟨_, A, cap, rfl, _⟩ := h; rfl
theorem Sl.cells1 {lo hi sz m : Nat} {v : Value} {cs : List Value} (h : Sl w lo hi v sz m cs) : v.cells = #[v] := by
  obtain ⟨_, A, cap, rfl, _⟩ := h; rfl
theorem cells_opq {x : Operand} {v : Value} (h : lk l x = v) (h1 : v.cells = #[v]) : (lk l x).cells = [v].toArray := by rw [h, h1]

/-! ### A row of one's own, as the kit has it -/
abbrev OwnR (w : World) (lo : Nat) (e : TypeId) (v : Value) (l : Bytes) : Prop := w.ownsRow lo e 1 v l.length (bcells l)
theorem OwnR.nil (w : World) (lo : Nat) (e : TypeId) : OwnR w lo e (.slice none 0 0) [] := World.ownsRow_nil w lo e 1
theorem OwnR.keep0 {w w' : World} {lo : Nat} {e : TypeId} {v : Value} {l : Bytes} (h : OwnR w lo e v l) (c : Chg [] w.heap.size w w') : OwnR w' lo e v l := by
  obtain ⟨h1, h2⟩ := h
  refine ⟨h1, ?_⟩
  rcases h2 with h2 | ⟨g, cap, cur, h3, h4, h5, h6⟩
  · exact .inl h2
  · exact .inr ⟨g, cap, cur, h3, h4, (c.block g (Array.getElem?_eq_some_iff.1 h5).1 (by simp)).trans h5, h6⟩
theorem OwnR.own {w : World} {lo : Nat} {e : TypeId} {v : Value} {l : Bytes} (h : OwnR w lo e v l) (hl : lo ≤ w.heap.size) : OwnB w lo v l := by
  obtain ⟨h1, h2⟩ := h
  refine ⟨h1, hl, ?_⟩
  rcases h2 with h2 | ⟨g, cap, cur, h3, h4, h5, h6, h7, h8, h9⟩
  · exact .inl h2
  · have hlt := (Array.getElem?_eq_some_iff.1 h5).1
    refine .inr ⟨g, 0, cap, h3, h4, hlt, h6, h7, fun j x hj => ?_, fun j hj => ⟨?_, ?_⟩⟩
    · rw [cell_of_row w g (0 + j) cur e (0, 0) h5, Nat.zero_add]
      rw [← h9] at hj
      have hjl := (List.getElem?_eq_some_iff.1 hj).1
      rw [List.getElem?_take, if_pos (by rw [List.length_take] at hjl; omega)] at hj
      simpa using hj
    · rw [cell_of_row w g (0 + j) cur e (0, 0) h5, Nat.zero_add, Array.getElem?_eq_getElem (by rw [h8]; exact hj)]; rfl
    · exact frozen_of_row w g _ cur e h5
theorem chg_grown_lo {w w' : World} {lo : Nat} {e : TypeId} {v : Value} {l : Bytes} (h : OwnR w lo e v l) (hg : w.grownBy w' v.ownBlock) (hl : lo ≤ w.heap.size) : Chg [] lo w w' :=
  (Chg.grown hg).to hl (fun b hb => .inr (World.ownsRow.lt h b (by simpa using hb)).1)
/-- Bytes behind a row of one's own. -/
theorem ops_appendR {t e : TypeId} {x y : Operand} {lo lo2 hi2 : Nat} {v v2 : Value} {l1 l2 : Bytes} (hg : wantsO all l g = some true)
    (hok : (okO l ⟨d, .call { callee := .builtin .append, args := #[x, y], argTypes := #[t, t] }, ty, p, af, g⟩ && dOk n d) = true) (ht : sliceT P t = some e) (he : elemI P e = some (1, 1)) (hx : lk l x = v) (hy : lk l y = v2)
    (h : OwnR w lo e v l1) (hs : Bs w lo2 hi2 v2 l2) (hl : lo ≤ w.heap.size) (hb : l1.length + l2.length ≤ 140737488355328)
    (next : ∀ v' w', OwnR w' lo e v' (l1 ++ l2) → Chg [] lo w w' → Ops P ro B_ n ds k all rest (putD l d v') w') :
    Ops P ro B_ n ds k all (⟨d, .call { callee := .builtin .append, args := #[x, y], argTypes := #[t, t] }, ty, p, af, g⟩ :: rest) l w := by
  obtain ⟨i, z, hi, hz, hsz, hby, hzs⟩ := elemI_eq he
  have hs0 := hs
  obtain ⟨h1, A, cap, rfl, h2, h3, h4, h5, h6, h7⟩ := hs
  cases A with
  | none =>
    have hc := h5 rfl
    have hl2 : l2 = [] := List.eq_nil_of_length_eq_zero (by omega)
    subst hl2; subst hc
    have hr := run_append_owned_none w (P := P) lo t ty e i 1 (sliceT_eq ht) hi v _ _ h
    refine ops_val (v := v) (w' := w) hg hok ?_ (next v w (by rw [List.append_nil]; exact h) ((Chg.refl [] w).to hl (by simp)))
    simp [execOp, resolve, invoke, builtin, hx, hy, hr]
  | some a =>
    obtain ⟨v', w', hr, h8, h9, _, _⟩ := run_append_own_at w (P := P) lo t ty e i z 1 1 (sliceT_eq ht) hi hz hsz hby hzs (by omega) v l1.length (bcells l1) h a l2.length cap (bcells l2) (by simp [bcells])
      (fun j u hj => by obtain ⟨a', ha, hc⟩ := h7 j u hj; cases ha; exact hc) (bcells_one _) (by simp only [maxLen]; omega) (by omega) hl
    refine ops_val (v := v') (w' := w') hg hok ?_ (next v' w' (by show World.ownsRow _ _ _ _ _ _ _; rw [List.length_append, bcells_append]; exact h8) (chg_grown_lo h h9 hl))
    simp [execOp, resolve, invoke, builtin, hx, hy, hr]
end
end Go.Kw
