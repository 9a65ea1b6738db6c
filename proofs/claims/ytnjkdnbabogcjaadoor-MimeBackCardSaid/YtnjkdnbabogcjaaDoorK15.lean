/- Values that no world changes, taken first in a region that draws: my own text. -/
import Derived.Test.YtnjkdnbabogcjaaDoorK14
set_option linter.unusedVariables false
set_option linter.unusedSimpArgs false
namespace Go.Kw
open Go Go.RowKit
section
variable {P : Program} {ro : Option Nat} {B : Post} {n : Nat} {ds : List Deferred} {k : List Kont} {l : Env} {w : World} {all : Array Oper} {S_ : World → Prop} {fuel : Nat} {listed : List Bool}
variable {d : Option Tmp} {ty : TypeId} {p : String} {af : Array Edge} {g : Option (Nat × Bool)}
theorem any_cat {q_ : Nat} {listed' : List Bool} {t t' : TypeId} {x y : Operand} {a b : Bytes} (hB : PanK B) (hp : plainA all = true) (ho : all[q_]? = some ⟨d, .binOp .add t x y t', ty, p, af, g⟩) (hfr : (Region.free .any all listed.toArray q_ && (Region.ready .any all listed.toArray).contains q_) = true) (hl : listed.set q_ true = listed')
    (hg : wantsO all l g = some true) (hok : (okO l ⟨d, .binOp .add t x y t', ty, p, af, g⟩ && dOk n d) = true) (hx : lk l x = S a) (hy : lk l y = S b) (hb : a.length + b.length ≤ 9223372036854775807)
    (next : Any P ro B n ds k all S_ fuel listed' (putD l d (S (a ++ b))) w) : Any P ro B n ds k all S_ (fuel + 1) listed l w := by
  refine any_fix (v := S (a ++ b)) hB hp ho hfr hl hg hok (fun w' => ?_) next
  have h : ¬ (IntKind.max .i64 < ((a.length + b.length : Nat) : Int)) := by
    show ¬ ((9223372036854775807 : Int) < _)
    omega
  have h' : ¬ (IntKind.max .i64 < ((a.length : Int) + (b.length : Int))) := by
    show ¬ ((9223372036854775807 : Int) < _)
    omega
  simp [execOp, hx, hy, eqGuard, binOp, Op.stringOp, size_S, h', cat_S]
  omega
theorem any_eqS {q_ : Nat} {listed' : List Bool} {t t' : TypeId} {x y : Operand} {a b : Bytes} (hB : PanK B) (hp : plainA all = true) (ho : all[q_]? = some ⟨d, .binOp .eql t x y t', ty, p, af, g⟩) (hfr : (Region.free .any all listed.toArray q_ && (Region.ready .any all listed.toArray).contains q_) = true) (hl : listed.set q_ true = listed')
    (hg : wantsO all l g = some true) (hok : (okO l ⟨d, .binOp .eql t x y t', ty, p, af, g⟩ && dOk n d) = true) (hx : lk l x = S a) (hy : lk l y = S b)
    (next : Any P ro B n ds k all S_ fuel listed' (putD l d (.bool (decide (a = b)))) w) : Any P ro B n ds k all S_ (fuel + 1) listed l w := by
  refine any_fix (v := .bool (decide (a = b))) hB hp ho hfr hl hg hok (fun w' => ?_) next
  simp [execOp, hx, hy, eqGuard, binOp, Op.stringOp]
  rw [Bool.eq_iff_iff]; simp
theorem any_neS {q_ : Nat} {listed' : List Bool} {t t' : TypeId} {x y : Operand} {a b : Bytes} (hB : PanK B) (hp : plainA all = true) (ho : all[q_]? = some ⟨d, .binOp .neq t x y t', ty, p, af, g⟩) (hfr : (Region.free .any all listed.toArray q_ && (Region.ready .any all listed.toArray).contains q_) = true) (hl : listed.set q_ true = listed')
    (hg : wantsO all l g = some true) (hok : (okO l ⟨d, .binOp .neq t x y t', ty, p, af, g⟩ && dOk n d) = true) (hx : lk l x = S a) (hy : lk l y = S b)
    (next : Any P ro B n ds k all S_ fuel listed' (putD l d (.bool (decide (a ≠ b)))) w) : Any P ro B n ds k all S_ (fuel + 1) listed l w := by
  refine any_fix (v := .bool (decide (a ≠ b))) hB hp ho hfr hl hg hok (fun w' => ?_) next
  simp [execOp, hx, hy, eqGuard, binOp, Op.stringOp]
  rw [Bool.eq_iff_iff]; simp
theorem any_at {q_ : Nat} {listed' : List Bool} {t : TypeId} {x y : Operand} {b : Bytes} {i : Int} {kd : IntKind} (j : Nat) (hB : PanK B) (hp : plainA all = true) (ho : all[q_]? = some ⟨d, .index t x y, ty, p, af, g⟩) (hfr : (Region.free .any all listed.toArray q_ && (Region.ready .any all listed.toArray).contains q_) = true) (hl : listed.set q_ true = listed')
    (hg : wantsO all l g = some true) (hok : (okO l ⟨d, .index t x y, ty, p, af, g⟩ && dOk n d) = true) (ht : strT P t = true) (hx : lk l x = S b) (hy : lk l y = .int kd i)
    (hi : i = (j : Int)) (hj : j < b.length)
    (next : Any P ro B n ds k all S_ fuel listed' (putD l d (.int .u8 (bAt b j))) w) : Any P ro B n ds k all S_ (fuel + 1) listed l w := by
  refine any_fix (v := .int .u8 (bAt b j)) hB hp ho hfr hl hg hok (fun w' => ?_) next
  subst hi
  have h1 : (⟨b.toArray⟩ : ByteArray)[j]? = some b[j] := by
    rw [getElem?_pos (⟨b.toArray⟩ : ByteArray) j hj]
    rfl
  simp [execOp, hx, hy, Instr.index, asIntOf, run_underlying (strT_eq ht), h1, bAt, hj]
theorem any_partS {q_ : Nat} {listed' : List Bool} {t : TypeId} {x y z : Operand} {s : Bytes} {i i' : Int} {kd kd' : IntKind} (a b : Nat) (hB : PanK B) (hp : plainA all = true) (ho : all[q_]? = some ⟨d, .slice t x (some y) (some z) none, ty, p, af, g⟩) (hfr : (Region.free .any all listed.toArray q_ && (Region.ready .any all listed.toArray).contains q_) = true) (hl : listed.set q_ true = listed')
    (hg : wantsO all l g = some true) (hok : (okO l ⟨d, .slice t x (some y) (some z) none, ty, p, af, g⟩ && dOk n d) = true) (ht : strT P t = true)
    (hx : lk l x = S s) (hy : lk l y = .int kd i) (hz : lk l z = .int kd' i') (ha : i = (a : Int)) (hb : i' = (b : Int)) (hab : a ≤ b) (hm : b ≤ s.length)
    (next : Any P ro B n ds k all S_ fuel listed' (putD l d (S ((s.drop a).take (b - a)))) w) : Any P ro B n ds k all S_ (fuel + 1) listed l w := by
  refine any_fix (v := S ((s.drop a).take (b - a))) hB hp ho hfr hl hg hok (fun w' => ?_) next
  subst ha; subst hb
  simp [execOp, Instr.sliceAt, hx, hy, hz, run_underlying (strT_eq ht), Instr.slice, Instr.sliceBounds, Instr.sliceBound, asIntOf, size_S, hm, hab, extract_S]
theorem any_fromS {q_ : Nat} {listed' : List Bool} {t : TypeId} {x y : Operand} {s : Bytes} {i : Int} {kd : IntKind} (a : Nat) (hB : PanK B) (hp : plainA all = true) (ho : all[q_]? = some ⟨d, .slice t x (some y) none none, ty, p, af, g⟩) (hfr : (Region.free .any all listed.toArray q_ && (Region.ready .any all listed.toArray).contains q_) = true) (hl : listed.set q_ true = listed')
    (hg : wantsO all l g = some true) (hok : (okO l ⟨d, .slice t x (some y) none none, ty, p, af, g⟩ && dOk n d) = true) (ht : strT P t = true)
    (hx : lk l x = S s) (hy : lk l y = .int kd i) (ha : i = (a : Int)) (hm : a ≤ s.length)
    (next : Any P ro B n ds k all S_ fuel listed' (putD l d (S (s.drop a))) w) : Any P ro B n ds k all S_ (fuel + 1) listed l w := by
  refine any_fix (v := S (s.drop a)) hB hp ho hfr hl hg hok (fun w' => ?_) next
  subst ha
  have h1 : (s.drop a).take (s.length - a) = s.drop a := List.take_of_length_le (by simp)
  simp [execOp, Instr.sliceAt, hx, hy, run_underlying (strT_eq ht), Instr.slice, Instr.sliceBounds, Instr.sliceBound, asIntOf, size_S, hm, extract_S, h1]
theorem any_uptoS {q_ : Nat} {listed' : List Bool} {t : TypeId} {x z : Operand} {s : Bytes} {i' : Int} {kd' : IntKind} (b : Nat) (hB : PanK B) (hp : plainA all = true) (ho : all[q_]? = some ⟨d, .slice t x none (some z) none, ty, p, af, g⟩) (hfr : (Region.free .any all listed.toArray q_ && (Region.ready .any all listed.toArray).contains q_) = true) (hl : listed.set q_ true = listed')
    (hg : wantsO all l g = some true) (hok : (okO l ⟨d, .slice t x none (some z) none, ty, p, af, g⟩ && dOk n d) = true) (ht : strT P t = true)
    (hx : lk l x = S s) (hz : lk l z = .int kd' i') (hb : i' = (b : Int)) (hm : b ≤ s.length)
    (next : Any P ro B n ds k all S_ fuel listed' (putD l d (S (s.take b))) w) : Any P ro B n ds k all S_ (fuel + 1) listed l w := by
  refine any_fix (v := S (s.take b)) hB hp ho hfr hl hg hok (fun w' => ?_) next
  subst hb
  simp [execOp, Instr.sliceAt, hx, hz, run_underlying (strT_eq ht), Instr.slice, Instr.sliceBounds, Instr.sliceBound, asIntOf, size_S, hm, extract_S]
theorem any_add {q_ : Nat} {listed' : List Bool} {t t' : TypeId} {x y : Operand} {a b : Int} {kd : IntKind} (hB : PanK B) (hp : plainA all = true) (ho : all[q_]? = some ⟨d, .binOp .add t x y t', ty, p, af, g⟩) (hfr : (Region.free .any all listed.toArray q_ && (Region.ready .any all listed.toArray).contains q_) = true) (hl : listed.set q_ true = listed')
    (hg : wantsO all l g = some true) (hok : (okO l ⟨d, .binOp .add t x y t', ty, p, af, g⟩ && dOk n d) = true) (hx : lk l x = .int kd a) (hy : lk l y = .int kd b) (h1 : kd.min ≤ a + b) (h2 : a + b ≤ kd.max)
    (next : Any P ro B n ds k all S_ fuel listed' (putD l d (.int kd (a + b))) w) : Any P ro B n ds k all S_ (fuel + 1) listed l w := by
  refine any_fix (v := .int kd (a + b)) hB hp ho hfr hl hg hok (fun w' => ?_) next
  simp [execOp, hx, hy, eqGuard, binOp, Op.intArith, wrap_in kd _ h1 h2]
theorem any_sub_ {q_ : Nat} {listed' : List Bool} {t t' : TypeId} {x y : Operand} {a b : Int} {kd : IntKind} (hB : PanK B) (hp : plainA all = true) (ho : all[q_]? = some ⟨d, .binOp .sub t x y t', ty, p, af, g⟩) (hfr : (Region.free .any all listed.toArray q_ && (Region.ready .any all listed.toArray).contains q_) = true) (hl : listed.set q_ true = listed')
    (hg : wantsO all l g = some true) (hok : (okO l ⟨d, .binOp .sub t x y t', ty, p, af, g⟩ && dOk n d) = true) (hx : lk l x = .int kd a) (hy : lk l y = .int kd b) (h1 : kd.min ≤ a - b) (h2 : a - b ≤ kd.max)
    (next : Any P ro B n ds k all S_ fuel listed' (putD l d (.int kd (a - b))) w) : Any P ro B n ds k all S_ (fuel + 1) listed l w := by
  refine any_fix (v := .int kd (a - b)) hB hp ho hfr hl hg hok (fun w' => ?_) next
  simp [execOp, hx, hy, eqGuard, binOp, Op.intArith, wrap_in kd _ h1 h2]
theorem any_mul {q_ : Nat} {listed' : List Bool} {t t' : TypeId} {x y : Operand} {a b : Int} {kd : IntKind} (hB : PanK B) (hp : plainA all = true) (ho : all[q_]? = some ⟨d, .binOp .mul t x y t', ty, p, af, g⟩) (hfr : (Region.free .any all listed.toArray q_ && (Region.ready .any all listed.toArray).contains q_) = true) (hl : listed.set q_ true = listed')
    (hg : wantsO all l g = some true) (hok : (okO l ⟨d, .binOp .mul t x y t', ty, p, af, g⟩ && dOk n d) = true) (hx : lk l x = .int kd a) (hy : lk l y = .int kd b) (h1 : kd.min ≤ a * b) (h2 : a * b ≤ kd.max)
    (next : Any P ro B n ds k all S_ fuel listed' (putD l d (.int kd (a * b))) w) : Any P ro B n ds k all S_ (fuel + 1) listed l w := by
  refine any_fix (v := .int kd (a * b)) hB hp ho hfr hl hg hok (fun w' => ?_) next
  simp [execOp, hx, hy, eqGuard, binOp, Op.intArith, wrap_in kd _ h1 h2]
end
end Go.Kw
