/- What may be taken first where nobody writes it: places, elements, texts; parts of lists of bytes: my own text. -/
import Derived.Test.YtnjkdnbabogcjaaDoorK12
import Derived.Lib.SlBytesConst
set_option linter.unusedVariables false
set_option linter.unusedSimpArgs false
namespace Go.Kw
open Go Go.RowKit
section
variable {P : Program} {ro : Option Nat} {B : Post} {n : Nat} {ds : List Deferred} {k : List Kont} {l : Env} {w : World} {all : Array Oper} {S_ : World → Prop} {fuel : Nat} {listed : List Bool}
variable {d : Option Tmp} {ty : TypeId} {p : String} {af : Array Edge} {g : Option (Nat × Bool)}
/-- What yields one value in every world that S lets in: taken first. -/
theorem any_fixS {i : Nat} {o : Oper} {v : Value} {listed' : List Bool} (hB : PanK B) (hp : plainA all = true) (ho : all[i]? = some o) (hfr : (Region.free .any all listed.toArray i && (Region.ready .any all listed.toArray).contains i) = true) (hl : listed.set i true = listed')
    (hg : wantsO all l o.guard = some true) (hok : (okO l o && dOk n o.dst) = true) (hv : ∀ w, S_ w → (execOp (lk l) o).run P w = .ok (.value v) w) (next : Any P ro B n ds k all S_ fuel listed' (putD l o.dst v) w) : Any P ro B n ds k all S_ (fuel + 1) listed l w := by
  intro a ha hS
  simp only [Bool.and_eq_true] at hfr hok
  have hQ : ∀ c a w, post P ro B k (.panic c) (a.put o.dst v) w → post P ro B k (.panic c) a w := fun c a w hp => by rw [post_panic] at *; exact hB _ _ _ _ _ hp
  have he : execOp a.eval o = execOp (lk l) o := by
    have := exec_eq (ro := none) ha hok.1
    rwa [Fw_round, Oper.semAt_none] at this
  refine wpAnyF_first hp ho hQ fuel _ _ _ (Region.free_spec ho hfr.1) (by simpa using hfr.2) (.inl ⟨wants_eq ha hg, fun w hw => by rw [he]; exact hv w hw⟩) hS ?_
  rw [set_toArray, hl]
  exact next _ (ha.putD _ _ hok.2) hS
theorem any_idx {q : Nat} {t e : TypeId} {x y : Operand} {lo hi : Nat} {v : Value} {sz m : Nat} {cs : List Value} {i : Int} {kd : IntKind} {listed' : List Bool} (j : Nat) (hB : PanK B) (hp : plainA all = true)
    (ho : all[q]? = some ⟨d, .indexAddr t x y, ty, p, af, g⟩) (hfr : (Region.free .any all listed.toArray q && (Region.ready .any all listed.toArray).contains q) = true) (hl : listed.set q true = listed')
    (hg : wantsO all l g = some true) (hok : (okO l ⟨d, .indexAddr t x y, ty, p, af, g⟩ && dOk n d) = true)
    (ht : sliceT P t = some e) (hs : (P.info? e).map (·.size) = some sz) (hx : lk l x = v) (hy : lk l y = .int kd i) (h : Sl w lo hi v sz m cs) (hj : i = (j : Int)) (hm : j < m)
    (next : ∀ a : Addr, (∀ W, Sl W lo hi v sz m cs → ∀ q, q < sz → W.cell? (a.add q) = cs[j * sz + q]?) → Any P ro B n ds k all S_ fuel listed' (putD l d (.pointer (some a))) w) : Any P ro B n ds k all S_ (fuel + 1) listed l w := by
  obtain ⟨hlen, A, cap, rfl, h2, h3, h4, h5, h6, h7⟩ := h
  obtain ⟨i0, hi0, hs0⟩ := Option.map_eq_some_iff.1 hs
  have hA : ∃ a, A = some a := by
    cases A with
    | none => have := h5 rfl; omega
    | some a => exact ⟨a, rfl⟩
  obtain ⟨a, rfl⟩ := hA
  subst hj
  refine any_fix (v := .pointer (some (a.add (j * sz)))) hB hp ho hfr hl hg hok (fun w' => ?_) (next _ fun W hW q hq => ?_)
  · simp [execOp, Instr.indexAt, hx, hy, asIntOf, run_underlying (sliceT_eq ht), sizeOf, typeInfo, hi0, hs0, hm]
  · obtain ⟨hl', A', cap', hv', _, _, _, _, _, h7'⟩ := hW
    injection hv' with e1 _ _
    have hlt : j * sz + q < cs.length := by
      rw [hl']
      calc j * sz + q < j * sz + sz := by omega
        _ = (j + 1) * sz := by rw [Nat.succ_mul]
        _ ≤ m * sz := Nat.mul_le_mul_right _ hm
    obtain ⟨a', ha', hc⟩ := h7' (j * sz + q) _ (List.getElem?_eq_getElem hlt)
    rw [← e1] at ha'
    cases ha'
    rw [List.getElem?_eq_getElem hlt]
    rw [show (a.add (j * sz)).add q = a.add (j * sz + q) from ?_]
    · exact hc
    · unfold Addr.add
      by_cases e1 : j * sz = 0 <;> by_cases e2 : q = 0 <;> simp [e1, e2, Nat.add_assoc]
theorem any_loadC {i : Nat} {t : TypeId} {x : Operand} {a : Addr} {v : Value} {listed' : List Bool} (hB : PanK B) (hp : plainA all = true)
    (ho : all[i]? = some ⟨d, .load t x, ty, p, af, g⟩) (hfr : (Region.free .any all listed.toArray i && (Region.ready .any all listed.toArray).contains i) = true) (hl : listed.set i true = listed')
    (hg : wantsO all l g = some true) (hok : (okO l ⟨d, .load t x, ty, p, af, g⟩ && dOk n d) = true) (hx : lk l x = .pointer (some a)) (hag : aggB P t = some false)
    (hc : ∀ W, S_ W → W.cell? a = some v) (next : Any P ro B n ds k all S_ fuel listed' (putD l d v) w) : Any P ro B n ds k all S_ (fuel + 1) listed l w :=
  any_fixS hB hp ho hfr hl hg hok (fun w hw => by
    have h1 := hc w hw
    simp [execOp, hx, Instr.loadAt, Instr.sureAddr, loadVar, isAgg_of hag, h1]) next
theorem any_toS {i : Nat} {src dst : TypeId} {x : Operand} {v : Value} {b : Bytes} {listed' : List Bool} (hB : PanK B) (hp : plainA all = true)
    (ho : all[i]? = some ⟨d, .convert src dst x, ty, p, af, g⟩) (hfr : (Region.free .any all listed.toArray i && (Region.ready .any all listed.toArray).contains i) = true) (hl : listed.set i true = listed')
    (hg : wantsO all l g = some true) (hok : (okO l ⟨d, .convert src dst x, ty, p, af, g⟩ && dOk n d) = true) (hs : bytesT P src = true) (hd : strT P dst = true) (hx : lk l x = v)
    (h : ∀ W, S_ W → ∃ lo hi, Bs W lo hi v b) (next : Any P ro B n ds k all S_ fuel listed' (putD l d (S b)) w) : Any P ro B n ds k all S_ (fuel + 1) listed l w :=
  any_fixS hB hp ho hfr hl hg hok (fun w hw => by
    obtain ⟨lo, hi, h1⟩ := h w hw
    have := run_bytes_S (P := P) hs hd h1
    simp [execOp, hx, this]) next
end
theorem AllB.keepM {w w' : World} {H B : Nat} {vs : List Value} {ls : List Bytes} (h : AllB w H none vs ls) (c : Chg [] B w w') (hB : H ≤ B) : AllB w' H none vs ls := AllB.keep c hB (by simp) (by simp) (Nat.le_refl _) h
section
variable {P : Program} {ro : Option Nat} {B_ : Post} {n : Nat} {ds : List Deferred} {k : List Kont} {l : Env} {w : World} {all : Array Oper} {rest : List Oper}
def u8T (P : Program) (e : TypeId) : Bool := match P.underlying e with | some (.int .u8) => true | _ => false
theorem u8T_eq {e : TypeId} (h : u8T P e = true) : P.underlying e = some (.int .u8) := by
  unfold u8T at h
  split at h
  · assumption
  · cases h
/-- The bytes of a constant text: a literal, then a conversion to its own type. -/
theorem ops_litK {t e : TypeId} {len d1 : Nat} {d2 : Option Tmp} {ty1 ty2 : TypeId} {p1 p2 : String} {af1 af2 : Array Edge} {g1 : Option (Nat × Bool)} {parts : Array (Nat × Operand)} (cs : List Value) (hg : wantsO all l g1 = some true) (hok : (okO l ⟨some d1, .buildSlice t len parts, ty1, p1, af1, g1⟩ && dOk n (some d1)) = true)
    (hb : litF P t len (parts.map fun (i, x) => (i, lk l x)) = some (e, 1, cs)) (hl : cs.length = len * 1) (hln : len ≤ 9223372036854775807) (ht : sliceT P t = some e) (he : u8T P e = true) (hd2 : dOk n d2 = true)
    (next : ∀ v w', Sl w' w.heap.size w'.heap.size v 1 len cs → Chg [] w.heap.size w w' → w'.heap.size = w.heap.size + 1 → Ops P ro B_ n ds k all rest (putD (putD l (some d1) v) d2 v) w') :
    Ops P ro B_ n ds k all (⟨some d1, .buildSlice t len parts, ty1, p1, af1, g1⟩ :: ⟨d2, .convert t t (.tmp d1), ty2, p2, af2, none⟩ :: rest) l w := by
  refine ops_val (v := .slice (some ⟨w.heap.size, 0, none⟩) len len) (w' := w.alloc (.cells cs.toArray e)) hg hok (by have := litF_run (w := w) hb; simp [execOp, this]) ?_
  have hx : lk (putD l (some d1) (.slice (some ⟨w.heap.size, 0, none⟩) len len)) (.tmp d1) = .slice (some ⟨w.heap.size, 0, none⟩) len len := by simp [lk, putD, lkT]
  have hcv := Lib.run_convert_bytes_const (P := P) w t e cs.toArray len len (sliceT_eq ht) (u8T_eq he)
  refine ops_val (v := .slice (some ⟨w.heap.size, 0, none⟩) len len) (w' := w.alloc (.cells cs.toArray e (cs.toArray.size, cs.toArray.size + 1))) rfl ?_ ?_ (next _ _ ?_ (Chg.alloc w _) (by simp))
  · simp [okO, Op.operands, cov, putD, lkT, hd2]
  · simp only [execOp]
    rw [hx]
    simp [hcv]
  · refine ⟨hl, _, len, rfl, Nat.le_refl _, hln, Nat.le_refl _, (fun e => (by cases e)), (fun a e _ => (by cases e; exact ⟨Nat.le_refl _, by simp⟩)), (fun j x hj => ⟨_, rfl, ?_⟩)⟩
    rw [add_zero_add, Nat.zero_add, cell_of_row _ w.heap.size j cs.toArray e _ (heap_alloc_new w _)]
    simpa using hj
end
theorem Sl.shape {w : World} {lo hi sz m : Nat} {v : Value} {cs : List Value} (h : Sl w lo hi v sz m cs) : ∃ A n c, v = .slice A n c := by
  obtain ⟨_, A, cap, hv, _⟩ := h; exact ⟨_, _, _, hv⟩
/-- Bytes do not lie in a box that holds no byte. -/
theorem bs_apart {w w' : World} {lo hi b B : Nat} {v : Value} {l : Bytes} {cs : List Value} {T : TypeId} (h : Bs w lo hi v l) (c : Chg [b] B w w') (hb : Blk w b cs T) (hk : ∀ c, c ∈ cs → ∀ x, c ≠ .int .u8 x) (hB : hi ≤ B) : Bs w' lo hi v l := by
  obtain ⟨h1, A, cap, hv, h2, h3, h4, h5, h6, h7⟩ := h
  refine ⟨h1, A, cap, hv, h2, h3, Nat.le_trans h4 c.size, h5, h6, fun j x hj => ?_⟩
  obtain ⟨a, ha, hc⟩ := h7 j x hj
  have hlt : 0 < (bcells l).length := by have := (List.getElem?_eq_some_iff.1 hj).1; omega
  obtain ⟨b1, b2⟩ := h6 a ha hlt
  have hblk : (a.add j).block = a.block := by unfold Addr.add; split <;> rfl
  have hne : a.block ≠ b := by
    intro e
    have hx : ∃ y, x = .int .u8 y := by
      simp only [bcells, List.getElem?_map, Option.map_eq_some_iff] at hj
      obtain ⟨y, _, rfl⟩ := hj
      exact ⟨_, rfl⟩
    obtain ⟨y, rfl⟩ := hx
    have hh := hb
    unfold Blk at hh
    rw [← e, ← hblk] at hh
    have hm : Value.int .u8 y ∈ cs := by
      simp only [World.cell?, hh] at hc
      split at hc
      · cases hc
      have := Array.mem_of_getElem? hc
      simpa using this
    exact hk _ hm y rfl
  refine ⟨a, ha, ?_⟩
  rw [World.cell?_of_block (w := w) (by rw [hblk]; exact c.block _ (by omega) (by simpa using hne))]
  exact hc
theorem AllB.keepR {w w' : World} {H B : Nat} {r : List Nat} {vs : List Value} {ls : List Bytes} (h : AllB w H none vs ls) (c : Chg r B w w') (hB : H ≤ B) (hr : ∀ b, b ∈ r → H ≤ b) : AllB w' H none vs ls := AllB.keep c hB (fun b hb => .inr (hr b hb)) (by simp) (Nat.le_refl _) h
theorem BBs.keepR {w w' : World} {H B : Nat} {r : List Nat} {v : Value} {ls : List Bytes} (h : BBs w H v ls) (c : Chg r B w w') (hB : H ≤ B) (hr : ∀ b, b ∈ r → H ≤ b) : BBs w' H v ls := by
  obtain ⟨vs, lo, hi, h1, h2, h3⟩ := h
  exact ⟨vs, lo, hi, h1, h2.keep c (by omega) (fun b _ h4 h5 => by have := hr b h5; omega), h3.keepR c hB hr⟩
theorem bb_cellH {w : World} {vs : List Value} {a : Addr} {j : Nat} {v : Value} (hc : ∀ q, q < 1 → w.cell? (a.add q) = vs[j * 1 + q]?) (hv : vs[j]? = some v) : w.cell? a = some v := by
  have := hc 0 (by omega)
  rw [Nat.mul_one, Nat.add_zero, hv] at this
  exact this
theorem bb_bsH {w : World} {H : Nat} {vs : List Value} {ls : List Bytes} {j : Nat} {v : Value} (ha : AllB w H none vs ls) (hj : j < ls.length) (hv : vs[j]? = some v) : ∃ lo hi, Bs w lo hi v (ls.getD j []) := by
  obtain ⟨u, h1, lo, hi, h2, _⟩ := AllB.get j ha hj
  rw [hv] at h1; cases h1
  exact ⟨lo, hi, h2⟩
theorem AllB.drop {w : World} {H : Nat} {g : Option Nat} : ∀ {vs : List Value} {ls : List Bytes} (a : Nat), AllB w H g vs ls → AllB w H g (vs.drop a) (ls.drop a)
  | vs, ls, 0, h => h
  | [], [], a + 1, h => h
  | v :: vs, l :: ls, a + 1, h => AllB.drop a h.2
  | [], _ :: _, _ + 1, h => h.elim
  | _ :: _, [], _ + 1, h => h.elim
theorem AllB.take {w : World} {H : Nat} {g : Option Nat} : ∀ {vs : List Value} {ls : List Bytes} (a : Nat), AllB w H g vs ls → AllB w H g (vs.take a) (ls.take a)
  | vs, ls, 0, h => trivial
  | [], [], a + 1, h => h
  | v :: vs, l :: ls, a + 1, h => ⟨h.1, AllB.take a h.2⟩
  | [], _ :: _, _ + 1, h => h.elim
  | _ :: _, [], _ + 1, h => h.elim
theorem bb_part {w : World} {lo hi H : Nat} {v : Value} {vs : List Value} {ls : List Bytes} {a b : Nat} (h : Sl w lo hi v 1 (b - a) ((vs.drop (a * 1)).take ((b - a) * 1))) (hb : b ≤ ls.length) (hH : hi ≤ H) (ha : AllB w H none vs ls) : BBs w H v ((ls.drop a).take (b - a)) := by
  rw [Nat.mul_one, Nat.mul_one] at h
  refine ⟨_, lo, hi, hH, ?_, AllB.take (b - a) (AllB.drop a ha)⟩
  rw [show ((ls.drop a).take (b - a)).length = b - a by rw [List.length_take, List.length_drop]; omega]
  exact h
end Go.Kw
