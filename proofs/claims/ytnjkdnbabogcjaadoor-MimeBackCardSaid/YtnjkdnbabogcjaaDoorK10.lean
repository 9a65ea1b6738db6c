/- More rules: lists of texts that grow; what a list's members are: my own text. -/
import Derived.Test.YtnjkdnbabogcjaaDoorK9
set_option linter.unusedVariables false
set_option linter.unusedSimpArgs false
namespace Go.Kw
open Go Go.RowKit

section
variable {P : Program} {fn : Func} {R : Ending → World → Prop} {ro : Option Nat} {B_ : Post} {n : Nat} {ds : List Deferred} {k : List Kont} {l : Env} {w : World} {all : Array Oper}
variable {rest : List Oper} {d : Option Tmp} {ty : TypeId} {p : String} {af : Array Edge} {g : Option (Nat × Bool)}
theorem scells_one (l : List Bytes) : ∀ u ∈ l.map S, u.oneCell' = true := by
  intro u hu
  obtain ⟨b, _, rfl⟩ := List.mem_map.1 hu
  rfl
/-- Texts behind texts. -/
theorem ops_appendS {t tx e : TypeId} {x y : Operand} {lo lo2 hi2 by_ : Nat} {v v2 : Value} {l1 l2 : List Bytes} (hg : wantsO all l g = some true)
    (hok : (okO l ⟨d, .call { callee := .builtin .append, args := #[x, y], argTypes := #[t, tx] }, ty, p, af, g⟩ && dOk n d) = true) (ht : sliceT P t = some e) (htx : sliceT P tx = some e) (he : elemI P e = some (1, by_)) (hx : lk l x = v) (hy : lk l y = v2)
    (h : OwnS w lo v l1) (hs : Ss w lo2 hi2 v2 l2) (hb : (l1.length + l2.length) * by_ ≤ 140737488355328) (h63 : l1.length + l2.length ≤ 9223372036854775807)
    (next : ∀ v' w', OwnS w' lo v' (l1 ++ l2) → Chg [] lo w w' → Chg v.ownBlock.toList w.heap.size w w' → Ops P ro B_ n ds k all rest (putD l d v') w') :
    Ops P ro B_ n ds k all (⟨d, .call { callee := .builtin .append, args := #[x, y], argTypes := #[t, tx] }, ty, p, af, g⟩ :: rest) l w :=
  ops_append hg hok ht he hx hy h (hs.src htx (scells_one _)) hb h63 (fun v' w' h1 h2 h3 _ => next v' w' (by show Own _ _ _ _ _ _; rw [List.length_append, List.map_append]; exact h1) h2 h3)
theorem ops_quo {t t' : TypeId} {x y : Operand} {a b : Int} {kd : IntKind} (hg : wantsO all l g = some true) (hok : (okO l ⟨d, .binOp .quo t x y t', ty, p, af, g⟩ && dOk n d) = true) (hx : lk l x = .int kd a) (hy : lk l y = .int kd b) (h0 : 0 ≤ a) (h1 : 0 < b) (h2 : a ≤ kd.max) (hk : kd.min ≤ 0)
    (next : Ops P ro B_ n ds k all rest (putD l d (.int kd (a / b))) w) : Ops P ro B_ n ds k all (⟨d, .binOp .quo t x y t', ty, p, af, g⟩ :: rest) l w := by
  refine ops_val (v := .int kd (a / b)) (w' := w) hg hok ?_ next
  have e : Int.tdiv a b = a / b := Int.tdiv_eq_ediv_of_nonneg h0
  have hq : 0 ≤ a / b := Int.ediv_nonneg h0 (by omega)
  have hq2 : a / b ≤ a := Int.ediv_le_self b h0
  have hne : b ≠ 0 := by omega
  have hw := wrap_in kd (a / b) (Int.le_trans hk hq) (Int.le_trans hq2 h2)
  simp [execOp, hx, hy, eqGuard, binOp, Op.intDiv, hne, e, hw]
end
section
variable {P : Program} {ro : Option Nat} {B : Post} {n : Nat} {ds : List Deferred} {k : List Kont} {l : Env} {w : World} {all : Array Oper} {S_ : World → Prop} {fuel : Nat} {listed : List Bool}
variable {d : Option Tmp} {ty : TypeId} {p : String} {af : Array Edge} {g : Option (Nat × Bool)}
/-- What yields one value in every world: taken first. -/
theorem any_fix {i : Nat} {o : Oper} {v : Value} {listed' : List Bool} (hB : PanK B) (hp : plainA all = true) (ho : all[i]? = some o) (hfr : (Region.free .any all listed.toArray i && (Region.ready .any all listed.toArray).contains i) = true) (hl : listed.set i true = listed')
    (hg : wantsO all l o.guard = some true) (hok : (okO l o && dOk n o.dst) = true) (hv : ∀ w, (execOp (lk l) o).run P w = .ok (.value v) w) (next : Any P ro B n ds k all S_ fuel listed' (putD l o.dst v) w) : Any P ro B n ds k all S_ (fuel + 1) listed l w := by
  intro a ha hS
  simp only [Bool.and_eq_true] at hfr hok
  have hQ : ∀ c a w, post P ro B k (.panic c) (a.put o.dst v) w → post P ro B k (.panic c) a w := fun c a w hp => by rw [post_panic] at *; exact hB _ _ _ _ _ hp
  have he : execOp a.eval o = execOp (lk l) o := by
    have := exec_eq (ro := none) ha hok.1
    rwa [Fw_round, Oper.semAt_none] at this
  refine wpAnyF_first hp ho hQ fuel _ _ _ (Region.free_spec ho hfr.1) (by simpa using hfr.2) (.inl ⟨wants_eq ha hg, fun w _ => by rw [he]; exact hv w⟩) hS ?_
  rw [set_toArray, hl]
  exact next _ (ha.putD _ _ hok.2) hS
theorem any_len {i : Nat} {t e : TypeId} {x : Operand} {lo hi : Nat} {v : Value} {sz m : Nat} {cs : List Value} {listed' : List Bool} (hB : PanK B) (hp : plainA all = true)
    (ho : all[i]? = some ⟨d, .call { callee := .builtin .len, args := #[x], argTypes := #[t] }, ty, p, af, g⟩) (hfr : (Region.free .any all listed.toArray i && (Region.ready .any all listed.toArray).contains i) = true) (hl : listed.set i true = listed')
    (hg : wantsO all l g = some true) (hok : (okO l ⟨d, .call { callee := .builtin .len, args := #[x], argTypes := #[t] }, ty, p, af, g⟩ && dOk n d) = true)
    (ht : sliceT P t = some e) (hx : lk l x = v) (h : Sl w lo hi v sz m cs) (next : Any P ro B n ds k all S_ fuel listed' (putD l d (.int .i64 m)) w) : Any P ro B n ds k all S_ (fuel + 1) listed l w := by
  have h' := h
  obtain ⟨hlen, A, cap, rfl, h2⟩ := h'
  refine any_fix (v := .int .i64 m) hB hp ho hfr hl hg hok (fun w' => ?_) next
  simp [execOp, resolve, invoke, builtin, hx, Builtin.len_, run_underlying (sliceT_eq ht), goInt]
/-- What is left is shown once for all ways that come to it. -/
theorem any_share {X : Type} (L : X → Env) (Φ : X → World → Prop) (f : Nat) (l2 : List Bool) {listed0 : List Bool} {fuel0 : Nat} (rest : ∀ x w, Φ x w → Any P ro B n ds k all S_ f l2 (L x) w)
    (go : (∀ x w, Φ x w → Any P ro B n ds k all S_ f l2 (L x) w) → Any P ro B n ds k all S_ fuel0 listed0 l w) : Any P ro B n ds k all S_ fuel0 listed0 l w := go rest
theorem any_use {X : Type} {L : X → Env} {Φ : X → World → Prop} (h : ∀ x w, Φ x w → Any P ro B n ds k all S_ fuel listed (L x) w) (x : X) (hs : Sub (L x) l) (hΦ : Φ x w) : Any P ro B n ds k all S_ fuel listed l w :=
  fun a ha hS => h x w hΦ a (ha.sub hs) hS
theorem any_part {q : Nat} {t e : TypeId} {x y z : Operand} {lo hi : Nat} {v : Value} {sz m : Nat} {cs : List Value} {i i' : Int} {kd kd' : IntKind} {listed' : List Bool} (a b : Nat) (hB : PanK B) (hp : plainA all = true)
    (ho : all[q]? = some ⟨d, .slice t x (some y) (some z) none, ty, p, af, g⟩) (hfr : (Region.free .any all listed.toArray q && (Region.ready .any all listed.toArray).contains q) = true) (hl : listed.set q true = listed')
    (hg : wantsO all l g = some true) (hok : (okO l ⟨d, .slice t x (some y) (some z) none, ty, p, af, g⟩ && dOk n d) = true)
    (ht : sliceT P t = some e) (hs : cellsZ P e = some sz) (hx : lk l x = v) (hy : lk l y = .int kd i) (hz : lk l z = .int kd' i') (h : Sl w lo hi v sz m cs) (ha : i = (a : Int)) (hb : i' = (b : Int)) (hab : a ≤ b) (hm : b ≤ m)
    (next : ∀ v', Sl w lo hi v' sz (b - a) ((cs.drop (a * sz)).take ((b - a) * sz)) → Any P ro B n ds k all S_ fuel listed' (putD l d v') w) : Any P ro B n ds k all S_ (fuel + 1) listed l w := by
  have h' := h
  obtain ⟨hlen, A, cap, rfl, h2, h3, h4⟩ := h'
  obtain ⟨i0, hi0, hs0⟩ := Option.map_eq_some_iff.1 hs
  subst ha; subst hb
  have c1 : b ≤ cap := by omega
  refine any_fix hB hp ho hfr hl hg hok (fun w' => ?_) (next _ (h.part hab hm))
  simp [execOp, Instr.sliceAt, hx, hy, hz, run_underlying (sliceT_eq ht), Instr.slice, Instr.sliceBounds, Instr.sliceBound, asIntOf, c1, hab, sizeOf, typeInfo, hi0, hs0]
theorem any_from {q : Nat} {t e : TypeId} {x y : Operand} {lo hi : Nat} {v : Value} {sz m : Nat} {cs : List Value} {i : Int} {kd : IntKind} {listed' : List Bool} (a : Nat) (hB : PanK B) (hp : plainA all = true)
    (ho : all[q]? = some ⟨d, .slice t x (some y) none none, ty, p, af, g⟩) (hfr : (Region.free .any all listed.toArray q && (Region.ready .any all listed.toArray).contains q) = true) (hl : listed.set q true = listed')
    (hg : wantsO all l g = some true) (hok : (okO l ⟨d, .slice t x (some y) none none, ty, p, af, g⟩ && dOk n d) = true)
    (ht : sliceT P t = some e) (hs : cellsZ P e = some sz) (hx : lk l x = v) (hy : lk l y = .int kd i) (h : Sl w lo hi v sz m cs) (ha : i = (a : Int)) (hm : a ≤ m)
    (next : ∀ v', Sl w lo hi v' sz (m - a) (cs.drop (a * sz)) → Any P ro B n ds k all S_ fuel listed' (putD l d v') w) : Any P ro B n ds k all S_ (fuel + 1) listed l w := by
  have h' := h
  obtain ⟨hlen, A, cap, rfl, h2, h3, h4⟩ := h'
  obtain ⟨i0, hi0, hs0⟩ := Option.map_eq_some_iff.1 hs
  have hp' := h.part hm (Nat.le_refl m)
  rw [List.take_of_length_le (by rw [List.length_drop, hlen, Nat.sub_mul]; exact Nat.le_refl _)] at hp'
  subst ha
  refine any_fix hB hp ho hfr hl hg hok (fun w' => ?_) (next _ hp')
  simp [execOp, Instr.sliceAt, hx, hy, run_underlying (sliceT_eq ht), Instr.slice, Instr.sliceBounds, Instr.sliceBound, asIntOf, hm, sizeOf, typeInfo, hi0, hs0]
theorem any_upto {q : Nat} {t e : TypeId} {x z : Operand} {lo hi : Nat} {v : Value} {sz m : Nat} {cs : List Value} {i' : Int} {kd' : IntKind} {listed' : List Bool} (b : Nat) (hB : PanK B) (hp : plainA all = true)
    (ho : all[q]? = some ⟨d, .slice t x none (some z) none, ty, p, af, g⟩) (hfr : (Region.free .any all listed.toArray q && (Region.ready .any all listed.toArray).contains q) = true) (hl : listed.set q true = listed')
    (hg : wantsO all l g = some true) (hok : (okO l ⟨d, .slice t x none (some z) none, ty, p, af, g⟩ && dOk n d) = true)
    (ht : sliceT P t = some e) (hs : cellsZ P e = some sz) (hx : lk l x = v) (hz : lk l z = .int kd' i') (h : Sl w lo hi v sz m cs) (hb : i' = (b : Int)) (hm : b ≤ m)
    (next : ∀ v', Sl w lo hi v' sz b (cs.take (b * sz)) → Any P ro B n ds k all S_ fuel listed' (putD l d v') w) : Any P ro B n ds k all S_ (fuel + 1) listed l w := by
  have h' := h
  obtain ⟨hlen, A, cap, rfl, h2, h3, h4⟩ := h'
  obtain ⟨i0, hi0, hs0⟩ := Option.map_eq_some_iff.1 hs
  have hp' := h.part (Nat.zero_le b) hm
  simp only [Nat.zero_mul, List.drop_zero, Nat.sub_zero] at hp'
  subst hb
  have c1 : b ≤ cap := by omega
  refine any_fix hB hp ho hfr hl hg hok (fun w' => ?_) (next _ hp')
  simp [execOp, Instr.sliceAt, hx, hz, run_underlying (sliceT_eq ht), Instr.slice, Instr.sliceBounds, Instr.sliceBound, asIntOf, c1, sizeOf, typeInfo, hi0, hs0]
end
theorem all_of_getD {α : Type} {L : List α} {d : α} {P : α → Prop} (h : ∀ q, q < L.length → P (L.getD q d)) : ∀ p, p ∈ L → P p := by
  intro p hp
  obtain ⟨i, hi, rfl⟩ := List.getElem_of_mem hp
  have := h i hi
  rwa [List.getD_eq_getElem?_getD, List.getElem?_eq_getElem hi] at this
theorem getD_mem {α : Type} {L : List α} {d : α} {q : Nat} (h : q < L.length) : L.getD q d ∈ L := by
  rw [List.getD_eq_getElem?_getD, List.getElem?_eq_getElem h]
  exact List.getElem_mem h
end Go.Kw
