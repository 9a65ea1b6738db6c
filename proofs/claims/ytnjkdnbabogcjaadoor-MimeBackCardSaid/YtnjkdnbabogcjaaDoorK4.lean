/- Appending, literals, conversions, texts, numbers: rules; my own text. -/
import Derived.Test.YtnjkdnbabogcjaaDoorK3
import Derived.IntWalk
set_option linter.unusedVariables false
set_option linter.unusedSimpArgs false
namespace Go.Kw
open Go Go.RowKit

section
variable {P : Program} {ro : Option Nat} {B_ : Post} {n : Nat} {ds : List Deferred} {k : List Kont} {l : Env} {w : World} {all : Array Oper}
variable {rest : List Oper} {d : Option Tmp} {ty : TypeId} {p : String} {af : Array Edge} {g : Option (Nat × Bool)}

/-! ### append -/
/-- cells and bytes of an element. -/
def elemI (P : Program) (e : TypeId) : Option (Nat × Nat) :=
  match P.info? e with
  | none => none
  | some i => match i.zero with
    | none => none
    | some z => bif Nat.beq z.cells.size i.size then some (i.size, i.bytes) else none
theorem elemI_eq {e : TypeId} {sz by_ : Nat} (h : elemI P e = some (sz, by_)) : ∃ i z, P.info? e = some i ∧ i.zero = some z ∧ i.size = sz ∧ i.bytes = by_ ∧ z.cells.size = sz := by
  unfold elemI at h
  split at h
  · simp at h
  · rename_i i hi
    split at h
    · simp at h
    · rename_i z hz
      cases hb : Nat.beq z.cells.size i.size with
      | false => rw [hb] at h; simp at h
      | true =>
        rw [hb] at h
        simp at h
        have := Nat.eq_of_beq_eq_true hb
        exact ⟨i, z, hi, hz, h.1, h.2, by omega⟩
theorem Sl.src {tx e : TypeId} (ht : sliceT P tx = some e) {lo hi : Nat} {v : Value} {sz m : Nat} {cs : List Value} (h : Sl w lo hi v sz m cs) (h1 : ∀ u ∈ cs, u.oneCell' = true) : Src P sz tx v m cs w := by
  obtain ⟨hl, A, cap, rfl, h2, h3, h4, h5, h6, h7⟩ := h
  cases A with
  | none =>
    have hc : cap = 0 := h5 rfl
    have hm : m = 0 := by omega
    subst hm
    have : cs = [] := List.eq_nil_of_length_eq_zero (by simpa using hl)
    subst this
    exact Src.ofNil w (sliceT_eq ht) cap
  | some a =>
    refine Src.ofSlice w (sliceT_eq ht) a m cap cs hl (fun j u hu => ?_) h1
    obtain ⟨a', ha', hc⟩ := h7 j u hu
    cases ha'
    exact hc
theorem setCells_size (b : Nat) : ∀ (vs : List Value) (o : Nat) (w : World), (w.setCells b o vs).heap.size = w.heap.size
  | [], _, _ => rfl
  | v :: r, o, w => by rw [World.setCells, setCells_size b r]; simp
theorem setCells_os (b : Nat) : ∀ (vs : List Value) (o : Nat) (w : World), (w.setCells b o vs).os = w.os ∧ (w.setCells b o vs).tape = w.tape ∧ (w.setCells b o vs).output = w.output
  | [], _, _ => ⟨rfl, rfl, rfl⟩
  | v :: r, o, w => by rw [World.setCells]; have := setCells_os b r (o + 1) (w.setCell ⟨b, o, none⟩ v); exact this
theorem setCells_far (b : Nat) : ∀ (vs : List Value) (o : Nat) (w : World) (j : Nat), j ≠ b → (w.setCells b o vs).heap[j]? = w.heap[j]?
  | [], _, _, _, _ => rfl
  | v :: r, o, w, j, h => by
    rw [World.setCells, setCells_far b r (o + 1) _ j h]
    exact Below.heap_setCell w ⟨b, o, none⟩ v j h
theorem setCells_frozen (b : Nat) : ∀ (vs : List Value) (o : Nat) (w : World) (a : Addr), (w.setCells b o vs).frozen? a = w.frozen? a
  | [], _, _, _ => rfl
  | v :: r, o, w, a => by rw [World.setCells, setCells_frozen b r]; simp
theorem setCells_some (b : Nat) : ∀ (vs : List Value) (o : Nat) (w : World) (a : Addr), (w.cell? a).isSome = true → ((w.setCells b o vs).cell? a).isSome = true
  | [], _, _, _, h => h
  | v :: r, o, w, a, h => by
    rw [World.setCells]
    refine setCells_some b r (o + 1) _ a ?_
    by_cases e : a = ⟨b, o, none⟩
    · subst e
      obtain ⟨u, hu⟩ := Option.isSome_iff_exists.1 h
      rw [World.cell?_setCell_same _ _ _ hu]; rfl
    · rw [World.cell?_setCell_other _ _ _ _ (fun h => e h.symm)]; exact h
theorem run_append {t tx ty e : TypeId} {sz by_ : Nat} (ht : sliceT P t = some e) (he : elemI P e = some (sz, by_)) {lo : Nat} {v x : Value} {n m : Nat} {cs news : List Value} (h : Own w lo v sz n cs) (hs : Src P sz tx x m news w)
    (hb : (n + m) * by_ ≤ 140737488355328) (h63 : n + m ≤ 9223372036854775807) :
    ∃ v' w', (Builtin.append_ #[t, tx] ty #[v, x]).run P w = .ok v' w' ∧ Own w' lo v' sz (n + m) (cs ++ news) ∧ Chg [] lo w w' ∧ Chg v.ownBlock.toList w.heap.size w w' ∧ (v'.ownBlock = v.ownBlock ∨ v'.ownBlock = some w.heap.size) := by
  obtain ⟨i, z, hi, hz, rfl, rfl, hzs⟩ := elemI_eq he
  obtain ⟨hl, h0, h2⟩ := h
  have hlen : (cs ++ news).length = (n + m) * i.size := by rw [List.length_append, hl, hs.newsLen, Nat.add_mul]
  -- a new row
  have grow : ∀ (base : Option Addr) (cap : Nat), cap < n + m → Builtin.nextslicecap (n + m) cap * i.bytes ≤ 281474976710656 → (Builtin.firstCells i.size n (.slice base n cap)).run P w.drew = .ok cs.toArray w.drew → ∀ rr : List Nat,
      ∃ v' w', (Builtin.append_ #[t, tx] ty #[.slice base n cap, x]).run P w = .ok v' w' ∧ Own w' lo v' i.size (n + m) (cs ++ news) ∧ Chg [] lo w w' ∧ Chg rr w.heap.size w w' ∧ ((v'.ownBlock = Value.ownBlock (.slice base n cap)) ∨ v'.ownBlock = some w.heap.size) := by
    intro base cap hc hfit hold rr
    have hr := run_append_grow_src (P := P) w t tx ty e i z (sliceT_eq ht) hi hz base n cap cs hold x m news hs hc (by omega) hfit
    have hge := grownCap_ge w (n + m) cap e
    have hcm : grownCap w (n + m) cap e ≤ 9223372036854775807 := by have := grownCap_le_maxLen w (n + m) cap e (by simp only [maxLen]; omega); simp only [maxLen] at this; omega
    refine ⟨_, _, hr, ⟨hlen, by simp; omega, .inr ⟨w.heap.size, 0, _, rfl, h0, by simp, hge, hcm, fun j x hj => ?_, fun j hj => ⟨?_, ?_⟩⟩⟩, ?_, ?_, .inr rfl⟩
    · have hjl := (List.getElem?_eq_some_iff.1 hj).1
      rw [Nat.zero_add, show w.heap.size = w.drew.heap.size from rfl, World.cell?_alloc_new]
      rw [Array.getElem?_append_left (by simpa using hjl)]
      simpa using hj
    · rw [Nat.zero_add, show w.heap.size = w.drew.heap.size from rfl, World.cell?_alloc_new]
      have : j < ((cs ++ news).toArray ++ Builtin.zeroCells z.cells (grownCap w (n + m) cap e - (n + m))).size := by
        rw [Array.size_append, size_zeroCells, hzs]
        simp only [List.size_toArray, hlen]
        rw [← Nat.add_mul]
        rw [show n + m + (grownCap w (n + m) cap e - (n + m)) = grownCap w (n + m) cap e by omega]
        exact hj
      rw [Array.getElem?_eq_getElem this]; rfl
    · rw [Nat.zero_add, show w.heap.size = w.drew.heap.size from rfl, World.frozen?_alloc_new]
    · exact ((Chg.drew w).step0 (Chg.alloc _ _) (by simp)).to h0 (fun b hb => by simp at hb)
    · exact ((Chg.drew w).step0 (Chg.alloc _ _) (by simp)).to (Nat.le_refl _) (fun b hb => by simp at hb)
  rcases h2 with ⟨rfl, rfl⟩ | ⟨gb, off, cap, rfl, b1, b2, b3, b4, b5, b6⟩
  · have hcs : cs = [] := List.eq_nil_of_length_eq_zero (by simpa using hl)
    subst hcs
    by_cases hm : m = 0
    · subst hm
      have hn : news = [] := List.eq_nil_of_length_eq_zero (by simpa using hs.newsLen)
      subst hn
      refine ⟨.slice none 0 0, w, ?_, Own.nil w lo _ h0, (Chg.refl [] w).to h0 (fun b hb => by simp at hb), (Chg.refl _ w).to (Nat.le_refl _) (fun b hb => .inl hb), .inl rfl⟩
      have hle := hs.len
      have hce := hs.cells
      rcases hs.kind with ⟨e', hk⟩ | hk <;> simp [Builtin.append_, run_underlying (sliceT_eq ht), run_underlying hk, sizeOf, typeInfo, hi, hle, hce]
    · exact grow none 0 (by omega) (growslice_fits (by omega) hb) (run_firstCells_none w.drew i.size 0 0 0) _
  · by_cases hroom : n + m ≤ cap
    · have hnm : n * i.size + news.length ≤ cap * i.size := by rw [hs.newsLen, ← Nat.add_mul]; exact Nat.mul_le_mul_right _ hroom
      have hr := run_append_room_src (P := P) w t tx ty e i (sliceT_eq ht) hi gb off n cap x m news hs hroom (fun j hj => by have := (b6 (n * i.size + j) (by omega)).1; rwa [← Nat.add_assoc] at this) (fun j hj => by have := (b6 (n * i.size + j) (by omega)).2; rwa [← Nat.add_assoc] at this)
      have hc1 : Chg [gb] w.heap.size w (w.setCells gb (off + n * i.size) news) :=
        ⟨(setCells_os _ _ _ _).1, (setCells_os _ _ _ _).2.1, (setCells_os _ _ _ _).2.2, by rw [setCells_size]; exact Nat.le_refl _, Nat.le_refl _, fun b _ hb => setCells_far gb news _ w b (by simpa using hb)⟩
      refine ⟨_, _, hr, ⟨hlen, by rw [setCells_size]; exact h0, .inr ⟨gb, off, cap, rfl, b1, by rw [setCells_size]; exact b2, hroom, b4, fun j u hj => ?_, fun j hj => ⟨setCells_some _ _ _ _ _ (b6 j hj).1, by rw [setCells_frozen]; exact (b6 j hj).2⟩⟩⟩, ?_, ?_, .inl rfl⟩
      · by_cases hjn : j < n * i.size
        · rw [World.cell?_setCells_out]
          · rw [List.getElem?_append_left (by omega)] at hj
            exact b5 j u hj
          · intro _ _; exact Or.inl (by simp; omega)
        · rw [List.getElem?_append_right (by omega)] at hj
          have hjl := (List.getElem?_eq_some_iff.1 hj).1
          have := World.cell?_setCells_in gb news (off + n * i.size) w (fun q hq => by have := (b6 (n * i.size + q) (by omega)).1; rwa [← Nat.add_assoc] at this) (j - n * i.size) (by omega)
          rw [show off + j = off + n * i.size + (j - n * i.size) by omega, this]
          rw [← hj, hl, List.getElem?_eq_getElem (by omega)]
      · exact hc1.to h0 (fun b hb => by simp at hb; omega)
      · simpa [Value.ownBlock] using hc1
    · have hold := run_firstCells_some (P := P) w.drew i.size n ⟨gb, off, none⟩ n cap cs hl (fun j u hj => by rw [add_zero_add]; simpa using b5 j u hj)
      exact grow (some ⟨gb, off, none⟩) cap (by omega) (growslice_fits (by omega) hb) hold _
theorem ops_append {t tx e : TypeId} {x y : Operand} {sz by_ lo m m' : Nat} {v v2 : Value} {cs news : List Value} (hg : wantsO all l g = some true)
    (hok : (okO l ⟨d, .call { callee := .builtin .append, args := #[x, y], argTypes := #[t, tx] }, ty, p, af, g⟩ && dOk n d) = true) (ht : sliceT P t = some e) (he : elemI P e = some (sz, by_)) (hx : lk l x = v) (hy : lk l y = v2)
    (h : Own w lo v sz m cs) (hs : Src P sz tx v2 m' news w) (hb : (m + m') * by_ ≤ 140737488355328) (h63 : m + m' ≤ 9223372036854775807)
    (next : ∀ v' w', Own w' lo v' sz (m + m') (cs ++ news) → Chg [] lo w w' → Chg v.ownBlock.toList w.heap.size w w' → (v'.ownBlock = v.ownBlock ∨ v'.ownBlock = some w.heap.size) → Ops P ro B_ n ds k all rest (putD l d v') w') :
    Ops P ro B_ n ds k all (⟨d, .call { callee := .builtin .append, args := #[x, y], argTypes := #[t, tx] }, ty, p, af, g⟩ :: rest) l w := by
  obtain ⟨v', w', hr, h1, h2, h3, h4⟩ := run_append (ty := ty) ht he h hs hb h63
  refine ops_val (v := v') (w' := w') hg hok ?_ (next v' w' h1 h2 h3 h4)
  simp [execOp, resolve, invoke, builtin, hx, hy, hr]
theorem Src.ofS {tx : TypeId} (hk : P.underlying tx = some .string) (l : Bytes) : Src P 1 tx (S l) l.length (bcells l) w :=
  Src.ofString (P := P) w hk ⟨l.toArray⟩
/-- Bytes behind bytes. -/
theorem ops_appendB {t tx e : TypeId} {x y : Operand} {lo lo2 hi2 by_ : Nat} {v v2 : Value} {l1 l2 : Bytes} (hg : wantsO all l g = some true)
    (hok : (okO l ⟨d, .call { callee := .builtin .append, args := #[x, y], argTypes := #[t, tx] }, ty, p, af, g⟩ && dOk n d) = true) (ht : sliceT P t = some e) (htx : sliceT P tx = some e) (he : elemI P e = some (1, 1)) (hx : lk l x = v) (hy : lk l y = v2)
    (h : OwnB w lo v l1) (hs : Bs w lo2 hi2 v2 l2) (hb : l1.length + l2.length ≤ 140737488355328)
    (next : ∀ v' w', OwnB w' lo v' (l1 ++ l2) → Chg [] lo w w' → Chg v.ownBlock.toList w.heap.size w w' → Ops P ro B_ n ds k all rest (putD l d v') w') :
    Ops P ro B_ n ds k all (⟨d, .call { callee := .builtin .append, args := #[x, y], argTypes := #[t, tx] }, ty, p, af, g⟩ :: rest) l w :=
  ops_append hg hok ht he hx hy h (hs.src htx (bcells_one _)) (by omega) (by omega) (fun v' w' h1 h2 h3 _ => next v' w' (by show Own _ _ _ _ _ _; rw [List.length_append, bcells_append]; exact h1) h2 h3)
/-- A text behind bytes. -/
theorem ops_appendBS {t tx e : TypeId} {x y : Operand} {lo by_ : Nat} {v : Value} {l1 l2 : Bytes} (hg : wantsO all l g = some true)
    (hok : (okO l ⟨d, .call { callee := .builtin .append, args := #[x, y], argTypes := #[t, tx] }, ty, p, af, g⟩ && dOk n d) = true) (ht : sliceT P t = some e) (htx : P.underlying tx = some .string) (he : elemI P e = some (1, 1)) (hx : lk l x = v) (hy : lk l y = S l2)
    (h : OwnB w lo v l1) (hb : l1.length + l2.length ≤ 140737488355328)
    (next : ∀ v' w', OwnB w' lo v' (l1 ++ l2) → Chg [] lo w w' → Chg v.ownBlock.toList w.heap.size w w' → Ops P ro B_ n ds k all rest (putD l d v') w') :
    Ops P ro B_ n ds k all (⟨d, .call { callee := .builtin .append, args := #[x, y], argTypes := #[t, tx] }, ty, p, af, g⟩ :: rest) l w :=
  ops_append hg hok ht he hx hy h (Src.ofS htx l2) (by omega) (by omega) (fun v' w' h1 h2 h3 _ => next v' w' (by show Own _ _ _ _ _ _; rw [List.length_append, bcells_append]; exact h1) h2 h3)

/-! ### Literals of slices -/
def litF (P : Program) (t : TypeId) (len : Nat) (parts : Array (Nat × Value)) : Option (TypeId × Nat × List Value) :=
  match P.underlying t with
  | some (.slice e) => match P.info? e with
    | none => none
    | some i => bif Nat.ble (len * i.size) 16777216 then
        match (bif Nat.beq (len * i.size) 0 then some #[] else i.zero.map Value.cells) with
        | none => none
        | some zero => match Instr.fill (fun q => some (q * i.size, i.size)) ((Array.range (len * i.size)).map (zero[· % zero.size]!)) parts.toList with
          | none => none
          | some cells => some (e, i.size, cells.toList)
      else none
  | _ => none
theorem litF_run {t : TypeId} {len : Nat} {parts : Array (Nat × Value)} {e : TypeId} {sz : Nat} {cs : List Value} (h : litF P t len parts = some (e, sz, cs)) :
    (Instr.buildSlice t len parts).run P w = .ok (.slice (some ⟨w.heap.size, 0, none⟩) len len) (w.alloc (.cells cs.toArray e)) := by
  unfold litF at h
  split at h
  · rename_i e0 ht
    split at h
    · simp at h
    · rename_i i hi
      cases hb : Nat.ble (len * i.size) 16777216 with
      | false => rw [hb] at h; simp at h
      | true =>
        rw [hb] at h
        simp only [cond_true] at h
        split at h
        · simp at h
        · rename_i zero hz
          split at h
          · simp at h
          · rename_i cells hc
            simp at h
            obtain ⟨rfl, rfl, rfl⟩ := h
            have hle := Nat.le_of_ble_eq_true hb
            have hle' : ¬ (16777216 < len * i.size) := by omega
            by_cases h0 : len * i.size = 0
            · rw [show Nat.beq (len * i.size) 0 = true from by rw [h0]; rfl] at hz
              simp at hz
              subst hz
              simp [Instr.buildSlice, run_underlying ht, sizeOf, typeInfo, hi, hle', h0, newRow]
              simp [h0] at hc
              simp [hc]
            · have hbeq : Nat.beq (len * i.size) 0 = false := by
                cases hq : Nat.beq (len * i.size) 0
                · rfl
                · exact absurd (Nat.eq_of_beq_eq_true hq) h0
              rw [hbeq] at hz
              simp at hz
              obtain ⟨z, hz1, hz2⟩ := hz
              subst hz2
              simp only [Instr.buildSlice, Sem.run_bind, run_underlying ht, Result.andThen_ok]
              have h0' : ¬ (len * i.size > 2 ^ 24) := by omega
              simp only [sizeOf, typeInfo, Sem.run_bind, run_program, Result.andThen_ok, hi, Sem.run_pure, if_neg h0', if_neg h0, zeroValue, hz1, hc, newRow, run_newObj]
              rfl
  · simp at h
/-- A slice written out. -/
theorem ops_lit {t e : TypeId} {len sz : Nat} {parts : Array (Nat × Operand)} (cs : List Value) (hg : wantsO all l g = some true) (hok : (okO l ⟨d, .buildSlice t len parts, ty, p, af, g⟩ && dOk n d) = true)
    (hb : litF P t len (parts.map fun (i, x) => (i, lk l x)) = some (e, sz, cs)) (hl : cs.length = len * sz) (hln : len ≤ 9223372036854775807)
    (next : ∀ v w', Own w' w.heap.size v sz len cs ∧ v.ownBlock = some w.heap.size → Chg [] w.heap.size w w' → w'.heap.size = w.heap.size + 1 → Ops P ro B_ n ds k all rest (putD l d v) w') : Ops P ro B_ n ds k all (⟨d, .buildSlice t len parts, ty, p, af, g⟩ :: rest) l w := by
  refine ops_val (v := .slice (some ⟨w.heap.size, 0, none⟩) len len) (w' := w.alloc (.cells cs.toArray e)) hg hok ?_ (next _ _ ⟨⟨hl, by simp, .inr ⟨w.heap.size, 0, len, rfl, Nat.le_refl _, by simp, Nat.le_refl _, hln, fun j x hj => ?_, fun j hj => ⟨?_, ?_⟩⟩⟩, rfl⟩ (Chg.alloc w _) (by simp))
  · have := litF_run (w := w) hb
    simp [execOp, this]
  · simp; exact hj
  · simp; omega
  · simp
end
end Go.Kw
