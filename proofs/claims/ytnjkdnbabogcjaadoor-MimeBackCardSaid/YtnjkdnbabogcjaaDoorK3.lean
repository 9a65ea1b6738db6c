/- Slices and strings: what is known of them, and the rules of their operations: my own text. -/
import Derived.Test.YtnjkdnbabogcjaaDoorK2
set_option linter.unusedVariables false
set_option linter.unusedSimpArgs false
namespace Go.Kw
open Go Go.RowKit

/-! ### A slice that is read -/
/-- v is a slice of n elements, sz cells each, that read cs; what it has lies in blocks from lo on, below hi. -/
def Sl (w : World) (lo hi : Nat) (v : Value) (sz n : Nat) (cs : List Value) : Prop :=
  cs.length = n * sz ∧ ∃ A cap, v = .slice A n cap ∧ n ≤ cap ∧ cap ≤ 9223372036854775807 ∧ hi ≤ w.heap.size ∧ (A = none → cap = 0) ∧
    (∀ a, A = some a → 0 < cs.length → lo ≤ a.block ∧ a.block < hi) ∧ ∀ j x, cs[j]? = some x → ∃ a, A = some a ∧ w.cell? (a.add j) = some x
theorem Sl.keep {w w' : World} {lo hi : Nat} {v : Value} {sz n : Nat} {cs : List Value} {r : List Nat} {B : Nat} (h : Sl w lo hi v sz n cs) (c : Chg r B w w') (hB : hi ≤ B) (hr : ∀ b, lo ≤ b → b < hi → b ∉ r) : Sl w' lo hi v sz n cs := by
  obtain ⟨h1, A, cap, hv, h2, h3, h4, h5, h6, h7⟩ := h
  refine ⟨h1, A, cap, hv, h2, h3, Nat.le_trans h4 c.size, h5, h6, fun j x hj => ?_⟩
  obtain ⟨a, ha, hc⟩ := h7 j x hj
  have hlt : 0 < cs.length := by have := (List.getElem?_eq_some_iff.1 hj).1; omega
  obtain ⟨b1, b2⟩ := h6 a ha hlt
  have hblk : (a.add j).block = a.block := by unfold Addr.add; split <;> rfl
  refine ⟨a, ha, ?_⟩
  rw [World.cell?_of_block (w := w) (by rw [hblk]; exact c.block _ (by omega) (hr _ b1 b2))]
  exact hc
theorem Sl.keep0 {w w' : World} {lo hi : Nat} {v : Value} {sz n : Nat} {cs : List Value} {B : Nat} (h : Sl w lo hi v sz n cs) (c : Chg [] B w w') (hB : hi ≤ B) : Sl w' lo hi v sz n cs := h.keep c hB (fun _ _ _ => by simp)
theorem Sl.keep1 {w w' : World} {lo hi x : Nat} {v : Value} {sz n : Nat} {cs : List Value} {B : Nat} (h : Sl w lo hi v sz n cs) (c : Chg [x] B w w') (hB : hi ≤ B) (hx : x < lo ∨ hi ≤ x) : Sl w' lo hi v sz n cs := h.keep c hB (fun b h1 h2 => by simp; omega)
theorem Sl.hi_le {w : World} {lo hi : Nat} {v : Value} {sz n : Nat} {cs : List Value} (h : Sl w lo hi v sz n cs) : hi ≤ w.heap.size := h.2.choose_spec.choose_spec.2.2.2.1
theorem Sl.len_le {w : World} {lo hi : Nat} {v : Value} {sz n : Nat} {cs : List Value} (h : Sl w lo hi v sz n cs) : n ≤ 9223372036854775807 := by
  obtain ⟨_, A, cap, _, h2, h3, _⟩ := h; omega
theorem Sl.wide {w : World} {lo hi lo' hi' : Nat} {v : Value} {sz n : Nat} {cs : List Value} (h : Sl w lo hi v sz n cs) (h1 : lo' ≤ lo) (h2 : hi ≤ hi') (h3 : hi' ≤ w.heap.size) : Sl w lo' hi' v sz n cs := by
  obtain ⟨a1, A, cap, hv, a2, a3, a4, a5, a6, a7⟩ := h
  exact ⟨a1, A, cap, hv, a2, a3, h3, a5, fun a e p => ⟨by have := (a6 a e p).1; omega, by have := (a6 a e p).2; omega⟩, a7⟩
theorem Sl.nil (w : World) (lo hi sz : Nat) (h : hi ≤ w.heap.size) : Sl w lo hi (.slice none 0 0) sz 0 [] := ⟨by simp, none, 0, rfl, Nat.le_refl _, by omega, h, (fun _ => rfl), (fun a e => (by cases e)), (fun j x hj => (by simp at hj))⟩

/-! ### A slice of one's own: its cells may be written up to its capacity -/
def Own (w : World) (lo : Nat) (v : Value) (sz n : Nat) (cs : List Value) : Prop :=
  cs.length = n * sz ∧ lo ≤ w.heap.size ∧ ((v = .slice none 0 0 ∧ n = 0) ∨ ∃ g off cap, v = .slice (some ⟨g, off, none⟩) n cap ∧ lo ≤ g ∧ g < w.heap.size ∧ n ≤ cap ∧ cap ≤ 9223372036854775807 ∧
    (∀ j x, cs[j]? = some x → w.cell? ⟨g, off + j, none⟩ = some x) ∧ (∀ j, j < cap * sz → (w.cell? ⟨g, off + j, none⟩).isSome = true ∧ w.frozen? ⟨g, off + j, none⟩ = false))
theorem add_zero_add (g off j : Nat) : (⟨g, off, none⟩ : Addr).add j = ⟨g, off + j, none⟩ := by unfold Addr.add; split <;> simp_all
theorem Own.sl {w : World} {lo : Nat} {v : Value} {sz n : Nat} {cs : List Value} (h : Own w lo v sz n cs) : Sl w lo w.heap.size v sz n cs := by
  obtain ⟨h1, h0, h2⟩ := h
  rcases h2 with ⟨rfl, rfl⟩ | ⟨g, off, cap, rfl, b1, b2, b3, b4, b5, b6⟩
  · have : cs = [] := List.eq_nil_of_length_eq_zero (by simpa using h1)
    subst this
    exact Sl.nil w _ _ _ (Nat.le_refl _)
  · exact ⟨h1, some ⟨g, off, none⟩, cap, rfl, b3, b4, Nat.le_refl _, (fun e => (by cases e)), (fun a e _ => (by cases e; exact ⟨b1, b2⟩)), (fun j x hj => ⟨_, rfl, (by rw [add_zero_add]; exact b5 j x hj)⟩)⟩
theorem Own.nil (w : World) (lo sz : Nat) (h : lo ≤ w.heap.size) : Own w lo (.slice none 0 0) sz 0 [] := ⟨by simp, h, .inl ⟨rfl, rfl⟩⟩
theorem Own.keep {w w' : World} {lo : Nat} {v : Value} {sz n : Nat} {cs : List Value} {r : List Nat} {B : Nat} (h : Own w lo v sz n cs) (c : Chg r B w w') (hB : w.heap.size ≤ B) (hr : ∀ b, lo ≤ b → b < w.heap.size → b ∉ r) : Own w' lo v sz n cs := by
  obtain ⟨h1, h0, h2⟩ := h
  refine ⟨h1, Nat.le_trans h0 c.size, ?_⟩
  rcases h2 with h2 | ⟨g, off, cap, rfl, b1, b2, b3, b4, b5, b6⟩
  · exact .inl h2
  · have hk : ∀ j, w'.cell? ⟨g, off + j, none⟩ = w.cell? ⟨g, off + j, none⟩ := fun j => World.cell?_of_block (w := w) (c.block g (by omega) (hr g b1 b2))
    have hf : ∀ j, w'.frozen? ⟨g, off + j, none⟩ = w.frozen? ⟨g, off + j, none⟩ := fun j => World.frozen?_of_block (w := w) (c.block g (by omega) (hr g b1 b2))
    exact .inr ⟨g, off, cap, rfl, b1, Nat.lt_of_lt_of_le b2 c.size, b3, b4, fun j x hj => (hk j).trans (b5 j x hj), fun j hj => by rw [hk, hf]; exact b6 j hj⟩
theorem Own.keep0 {w w' : World} {lo : Nat} {v : Value} {sz n : Nat} {cs : List Value} (h : Own w lo v sz n cs) (c : Chg [] w.heap.size w w') : Own w' lo v sz n cs := h.keep c (Nat.le_refl _) (fun _ _ _ => by simp)
theorem Own.keep1 {w w' : World} {lo x : Nat} {v : Value} {sz n : Nat} {cs : List Value} (h : Own w lo v sz n cs) (c : Chg [x] w.heap.size w w') (hx : x < lo) : Own w' lo v sz n cs := h.keep c (Nat.le_refl _) (fun b h1 _ => by simp; omega)
theorem Own.len_le {w : World} {lo : Nat} {v : Value} {sz n : Nat} {cs : List Value} (h : Own w lo v sz n cs) : n ≤ 9223372036854775807 := h.sl.len_le
theorem Own.down {w : World} {lo lo' : Nat} {v : Value} {sz n : Nat} {cs : List Value} (h : Own w lo v sz n cs) (hl : lo' ≤ lo) : Own w lo' v sz n cs := by
  obtain ⟨h1, h0, h2⟩ := h
  refine ⟨h1, by omega, ?_⟩
  rcases h2 with h2 | ⟨g, off, cap, rfl, b1, b⟩
  · exact .inl h2
  · exact .inr ⟨g, off, cap, rfl, by omega, b⟩

/-! ### Bytes, texts -/
abbrev Bytes := List UInt8
/-- A text as a value. -/
abbrev S (l : Bytes) : Value := .string ⟨l.toArray⟩
def bcells (l : Bytes) : List Value := l.map fun b => .int .u8 b.toNat
theorem bcells_length (l : Bytes) : (bcells l).length = l.length := by simp [bcells]
theorem bcells_append (a b : Bytes) : bcells (a ++ b) = bcells a ++ bcells b := by simp [bcells]
theorem bcells_one (l : Bytes) : ∀ u ∈ bcells l, u.oneCell' = true := by
  intro u hu
  obtain ⟨b, _, rfl⟩ := List.mem_map.1 hu
  rfl
abbrev Bs (w : World) (lo hi : Nat) (v : Value) (l : Bytes) : Prop := Sl w lo hi v 1 l.length (bcells l)
abbrev OwnB (w : World) (lo : Nat) (v : Value) (l : Bytes) : Prop := Own w lo v 1 l.length (bcells l)
abbrev Ss (w : World) (lo hi : Nat) (v : Value) (ls : List Bytes) : Prop := Sl w lo hi v 1 ls.length (ls.map S)
abbrev OwnS (w : World) (lo : Nat) (v : Value) (ls : List Bytes) : Prop := Own w lo v 1 ls.length (ls.map S)
/-- The byte at a place. -/
def bAt (l : Bytes) (i : Nat) : Int := ((l.getD i 0).toNat : Int)
theorem bAt_range (l : Bytes) (i : Nat) : 0 ≤ bAt l i ∧ bAt l i ≤ 255 := by
  unfold bAt
  have := (l.getD i 0).toNat_lt
  omega
theorem S_inj {a b : Bytes} (h : S a = S b) : a = b := by
  injection h with h
  injection h with h
  simpa using congrArg Array.toList h
theorem size_S (l : Bytes) : (⟨l.toArray⟩ : ByteArray).size = l.length := rfl

section
variable {P : Program} {ro : Option Nat} {B_ : Post} {n : Nat} {ds : List Deferred} {k : List Kont} {l : Env} {w : World} {all : Array Oper}
variable {rest : List Oper} {d : Option Tmp} {ty : TypeId} {p : String} {af : Array Edge} {g : Option (Nat × Bool)}

/-! ### Slices: length, places, parts -/
theorem run_len_sl {t ty : TypeId} (e : TypeId) (ht : P.underlying t = some (.slice e)) {lo hi : Nat} {v : Value} {sz m : Nat} {cs : List Value} (h : Sl w lo hi v sz m cs) : (Builtin.len_ #[t] ty #[v]).run P w = .ok (.int .i64 m) w := by
  obtain ⟨_, A, cap, rfl, _⟩ := h
  simp [Builtin.len_, run_underlying ht, goInt]
def sliceT (P : Program) (t : TypeId) : Option TypeId := match P.underlying t with | some (.slice e) => some e | _ => none
theorem sliceT_eq {t e : TypeId} (h : sliceT P t = some e) : P.underlying t = some (.slice e) := by
  unfold sliceT at h
  split at h
  · rename_i x hx; simp at h; subst h; exact hx
  · simp at h
theorem ops_len {t e : TypeId} {x : Operand} {lo hi : Nat} {v : Value} {sz m : Nat} {cs : List Value} (hg : wantsO all l g = some true) (hok : (okO l ⟨d, .call { callee := .builtin .len, args := #[x], argTypes := #[t] }, ty, p, af, g⟩ && dOk n d) = true)
    (ht : sliceT P t = some e) (hx : lk l x = v) (h : Sl w lo hi v sz m cs) (next : Ops P ro B_ n ds k all rest (putD l d (.int .i64 m)) w) : Ops P ro B_ n ds k all (⟨d, .call { callee := .builtin .len, args := #[x], argTypes := #[t] }, ty, p, af, g⟩ :: rest) l w := by
  refine ops_val (v := .int .i64 m) (w' := w) hg hok ?_ next
  simp [execOp, resolve, invoke, builtin, hx, run_len_sl e (sliceT_eq ht) h]
/-- The place of an element. -/
theorem ops_idx {t e : TypeId} {x y : Operand} {lo hi : Nat} {v : Value} {sz m : Nat} {cs : List Value} {i : Int} {kd : IntKind} (j : Nat) (hg : wantsO all l g = some true) (hok : (okO l ⟨d, .indexAddr t x y, ty, p, af, g⟩ && dOk n d) = true)
    (ht : sliceT P t = some e) (hs : (P.info? e).map (·.size) = some sz) (hx : lk l x = v) (hy : lk l y = .int kd i) (h : Sl w lo hi v sz m cs) (hj : i = (j : Int)) (hm : j < m)
    (next : ∀ a : Addr, (∀ q, q < sz → w.cell? (a.add q) = cs[j * sz + q]?) → Ops P ro B_ n ds k all rest (putD l d (.pointer (some a))) w) : Ops P ro B_ n ds k all (⟨d, .indexAddr t x y, ty, p, af, g⟩ :: rest) l w := by
  obtain ⟨hl, A, cap, rfl, h2, h3, h4, h5, h6, h7⟩ := h
  obtain ⟨i0, hi0, hs0⟩ := Option.map_eq_some_iff.1 hs
  have hA : ∃ a, A = some a := by
    cases A with
    | none => have := h5 rfl; omega
    | some a => exact ⟨a, rfl⟩
  obtain ⟨a, rfl⟩ := hA
  refine ops_val (v := .pointer (some (a.add (j * sz)))) (w' := w) hg hok ?_ (next _ fun q hq => ?_)
  · subst hj
    simp [execOp, Instr.indexAt, hx, hy, asIntOf, run_underlying (sliceT_eq ht), sizeOf, typeInfo, hi0, hs0, hm]
  · have hlt : j * sz + q < cs.length := by
      rw [hl]
      calc j * sz + q < j * sz + sz := by omega
        _ = (j + 1) * sz := by rw [Nat.succ_mul]
        _ ≤ m * sz := Nat.mul_le_mul_right _ hm
    obtain ⟨a', ha', hc⟩ := h7 (j * sz + q) _ (List.getElem?_eq_getElem hlt)
    cases ha'
    rw [List.getElem?_eq_getElem hlt]
    rw [show (a.add (j * sz)).add q = a.add (j * sz + q) from ?_]
    · exact hc
    · unfold Addr.add
      by_cases e1 : j * sz = 0 <;> by_cases e2 : q = 0 <;> simp [e1, e2, Nat.add_assoc]
theorem Sl.part {lo hi : Nat} {sz m : Nat} {cs : List Value} {A : Option Addr} {cap a b : Nat} (h : Sl w lo hi (.slice A m cap) sz m cs) (hab : a ≤ b) (hb : b ≤ m) :
    Sl w lo hi (.slice (if cap = a then A else A.map (·.add (a * sz))) (b - a) (cap - a)) sz (b - a) ((cs.drop (a * sz)).take ((b - a) * sz)) := by
  obtain ⟨hl, A', cap', hv, h2, h3, h4, h5, h6, h7⟩ := h
  injection hv with e1 e2 e3
  subst e1; subst e3
  have e4 : a * sz ≤ m * sz := Nat.mul_le_mul_right _ (by omega)
  have e5 : b * sz ≤ m * sz := Nat.mul_le_mul_right _ hb
  have hlen : ((cs.drop (a * sz)).take ((b - a) * sz)).length = (b - a) * sz := by
    rw [List.length_take, List.length_drop, hl, Nat.sub_mul]; omega
  refine ⟨hlen, _, _, rfl, by omega, by omega, h4, ?_, ?_, ?_⟩
  · intro e
    split at e
    · have := h5 e; omega
    · have : A = none := by simpa using e
      have := h5 this; omega
  · intro x hx hpos
    have hpos' : 0 < cs.length := by
      rw [List.length_take, List.length_drop] at hpos; omega
    split at hx
    · exact h6 x hx hpos'
    · obtain ⟨a0, ha0, rfl⟩ := Option.map_eq_some_iff.1 hx
      have hblk : (a0.add (a * sz)).block = a0.block := by unfold Addr.add; split <;> rfl
      rw [hblk]
      exact h6 a0 ha0 hpos'
  · intro j x hj
    have hjl := (List.getElem?_eq_some_iff.1 hj).1
    rw [hlen] at hjl
    rw [List.getElem?_take, if_pos hjl, List.getElem?_drop] at hj
    obtain ⟨a0, ha0, hc⟩ := h7 _ x hj
    have hca : cap ≠ a := by
      intro e
      have : b - a = 0 := by omega
      rw [this, Nat.zero_mul] at hjl
      omega
    refine ⟨a0.add (a * sz), by rw [if_neg hca, ha0]; rfl, ?_⟩
    rw [show (a0.add (a * sz)).add j = a0.add (a * sz + j) from ?_]
    · exact hc
    · unfold Addr.add
      by_cases e1 : a * sz = 0 <;> by_cases e2 : j = 0 <;> simp [e1, e2, Nat.add_assoc]
def cellsZ (P : Program) (e : TypeId) : Option Nat := (P.info? e).map (·.size)
/-- v[a:b] -/
theorem ops_part {t e : TypeId} {x y z : Operand} {lo hi : Nat} {v : Value} {sz m : Nat} {cs : List Value} {i i' : Int} {kd kd' : IntKind} (a b : Nat) (hg : wantsO all l g = some true) (hok : (okO l ⟨d, .slice t x (some y) (some z) none, ty, p, af, g⟩ && dOk n d) = true)
    (ht : sliceT P t = some e) (hs : cellsZ P e = some sz) (hx : lk l x = v) (hy : lk l y = .int kd i) (hz : lk l z = .int kd' i') (h : Sl w lo hi v sz m cs) (ha : i = (a : Int)) (hb : i' = (b : Int)) (hab : a ≤ b) (hm : b ≤ m)
    (next : ∀ v', Sl w lo hi v' sz (b - a) ((cs.drop (a * sz)).take ((b - a) * sz)) → Ops P ro B_ n ds k all rest (putD l d v') w) : Ops P ro B_ n ds k all (⟨d, .slice t x (some y) (some z) none, ty, p, af, g⟩ :: rest) l w := by
  have h' := h
  obtain ⟨hl, A, cap, rfl, h2, h3, h4⟩ := h'
  obtain ⟨i0, hi0, hs0⟩ := Option.map_eq_some_iff.1 hs
  refine ops_val (w' := w) hg hok ?_ (next _ (h.part hab hm))
  subst ha; subst hb
  have c1 : b ≤ cap := by omega
  simp [execOp, Instr.sliceAt, hx, hy, hz, run_underlying (sliceT_eq ht), Instr.slice, Instr.sliceBounds, Instr.sliceBound, asIntOf, c1, hab, sizeOf, typeInfo, hi0, hs0]
/-- v[a:] -/
theorem ops_from {t e : TypeId} {x y : Operand} {lo hi : Nat} {v : Value} {sz m : Nat} {cs : List Value} {i : Int} {kd : IntKind} (a : Nat) (hg : wantsO all l g = some true) (hok : (okO l ⟨d, .slice t x (some y) none none, ty, p, af, g⟩ && dOk n d) = true)
    (ht : sliceT P t = some e) (hs : cellsZ P e = some sz) (hx : lk l x = v) (hy : lk l y = .int kd i) (h : Sl w lo hi v sz m cs) (ha : i = (a : Int)) (hm : a ≤ m)
    (next : ∀ v', Sl w lo hi v' sz (m - a) (cs.drop (a * sz)) → Ops P ro B_ n ds k all rest (putD l d v') w) : Ops P ro B_ n ds k all (⟨d, .slice t x (some y) none none, ty, p, af, g⟩ :: rest) l w := by
  have h' := h
  obtain ⟨hl, A, cap, rfl, h2, h3, h4⟩ := h'
  obtain ⟨i0, hi0, hs0⟩ := Option.map_eq_some_iff.1 hs
  have hp := h.part hm (Nat.le_refl m)
  rw [List.take_of_length_le (by rw [List.length_drop, hl, Nat.sub_mul]; exact Nat.le_refl _)] at hp
  refine ops_val (w' := w) hg hok ?_ (next _ hp)
  subst ha
  simp [execOp, Instr.sliceAt, hx, hy, run_underlying (sliceT_eq ht), Instr.slice, Instr.sliceBounds, Instr.sliceBound, asIntOf, hm, sizeOf, typeInfo, hi0, hs0]
/-- v[:b] -/
theorem ops_upto {t e : TypeId} {x z : Operand} {lo hi : Nat} {v : Value} {sz m : Nat} {cs : List Value} {i' : Int} {kd' : IntKind} (b : Nat) (hg : wantsO all l g = some true) (hok : (okO l ⟨d, .slice t x none (some z) none, ty, p, af, g⟩ && dOk n d) = true)
    (ht : sliceT P t = some e) (hs : cellsZ P e = some sz) (hx : lk l x = v) (hz : lk l z = .int kd' i') (h : Sl w lo hi v sz m cs) (hb : i' = (b : Int)) (hm : b ≤ m)
    (next : ∀ v', Sl w lo hi v' sz b (cs.take (b * sz)) → Ops P ro B_ n ds k all rest (putD l d v') w) : Ops P ro B_ n ds k all (⟨d, .slice t x none (some z) none, ty, p, af, g⟩ :: rest) l w := by
  have h' := h
  obtain ⟨hl, A, cap, rfl, h2, h3, h4⟩ := h'
  obtain ⟨i0, hi0, hs0⟩ := Option.map_eq_some_iff.1 hs
  have hp := h.part (Nat.zero_le b) hm
  simp only [Nat.zero_mul, List.drop_zero, Nat.sub_zero] at hp
  refine ops_val (w' := w) hg hok ?_ (next _ hp)
  subst hb
  have c1 : b ≤ cap := by omega
  simp [execOp, Instr.sliceAt, hx, hz, run_underlying (sliceT_eq ht), Instr.slice, Instr.sliceBounds, Instr.sliceBound, asIntOf, c1, sizeOf, typeInfo, hi0, hs0]
end
end Go.Kw
