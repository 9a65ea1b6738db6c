/- Regions that draw their order: my own text; the law of the operation that may be taken first follows the kit's. -/
import Derived.Test.YtnjkdnbabogcjaaDoorK7
import Derived.OrdersIn
set_option linter.unusedVariables false
set_option linter.unusedSimpArgs false
namespace Go.Kw
open Go Go.RowKit

section
variable {P : Program} {ops : Array Oper} {Q : Exit → Act → World → Prop} {md : Region.Mode} {S_ : World → Prop} {ro : Option Nat}

def YieldsF (ro : Option Nat) (P : Program) (ops : Array Oper) (S_ : World → Prop) (o : Oper) (v : Value) (a : Act) : Prop :=
  (Region.wanted o (yielded ops a.tmps) = true ∧ ∀ w, S_ w → (execOp a.eval o).run P w = .ok (.value v) w) ∨
  (Region.wanted o (yielded ops a.tmps) = false ∧ v = undef)
def plainO (o : Oper) : Bool := match o.op with | .select .. => false | .defer _ => false | _ => true
def plainA (ops : Array Oper) : Bool := ops.all plainO
theorem plainA_spec (h : plainA ops = true) {j : Nat} {o : Oper} (ho : ops[j]? = some o) : (∀ cs b, o.op ≠ .select cs b) ∧ ∀ c, o.op ≠ .defer c := by
  have := Array.all_eq_true_iff_forall_mem.1 h o (Array.mem_of_getElem? ho)
  unfold plainO at this
  exact ⟨fun cs b e => by rw [e] at this; simp at this, fun c e => by rw [e] at this; simp at this⟩
theorem YieldsF.wpOpIn {i : Nat} {o : Oper} {v : Value} {a : Act} (hp : plainA ops = true) (hi : ops[i]? = some o) (hy : YieldsF ro P ops S_ o v a)
    {K : Act → World → Prop} {w : World} (hS : S_ w) (h : K (a.put o.dst v) w) : wpOpIn (Fw ro) 0 P ops Q i K a w := by
  unfold Go.wpOpIn
  simp only [hi]
  rcases hy with ⟨hw, hv⟩ | ⟨hw, rfl⟩
  · simp only [hw, if_true, Oper.wpIn, Oper.semAt_eq _ _ _ (plainA_spec hp hi).2, hv w hS, Oper.uponIn]; exact ⟨fun f _ => Fw_fn ro f, h⟩
  · simp only [hw, Bool.false_eq_true, if_false]; exact ⟨fun f _ => Fw_fn ro f, h⟩
theorem YieldsF.of_same {o : Oper} {v : Value} {a a' : Act} (hy : YieldsF ro P ops S_ o v a) (he : execOp a'.eval o = execOp a.eval o)
    (hw : Region.wanted o (yielded ops a'.tmps) = Region.wanted o (yielded ops a.tmps)) : YieldsF ro P ops S_ o v a' := by
  unfold YieldsF at *
  rw [he, hw]
  exact hy
theorem wpOpIn_putF {j : Nat} {oi oj : Oper} {v : Value} (hp : plainA ops = true) {i : Nat} (hi : ops[i]? = some oi) (hj : ops[j]? = some oj) (hap : oi.apart ops oj = true)
    (hQ : ∀ c a w, Q (.panic c) (a.put oi.dst v) w → Q (.panic c) a w) {K : Act → World → Prop} {a : Act} {w : World}
    (hy : YieldsF ro P ops S_ oi v a) (h : wpOpIn (Fw ro) 0 P ops Q j K (a.put oi.dst v) w) :
    wpOpIn (Fw ro) 0 P ops Q j (fun a' w' => YieldsF ro P ops S_ oi v a' ∧ K (a'.put oi.dst v) w') a w := by
  obtain ⟨h1, h2, h3⟩ := Oper.apart_spec hap
  have hsi := (plainA_spec hp hi).1
  have hsj := (plainA_spec hp hj).1
  have keep : ∀ (a : Act), YieldsF ro P ops S_ oi v a → ∀ u, YieldsF ro P ops S_ oi v (a.put oj.dst u) := fun a hy u =>
    hy.of_same (execOp_put oi hsi a oj.dst u h3) (wanted_put oi a oj.dst u h3)
  have hj0 := hj
  unfold wpOpIn at h ⊢
  simp only [hj] at h ⊢
  rw [wanted_put oj a oi.dst v h1, about_put oj w a oi.dst v h1] at h
  split
  · rename_i hw
    simp only [hw, if_true] at h
    unfold Oper.wpIn at *
    rw [about_put oj w a oi.dst v h1] at h
    refine ⟨h.1, ?_⟩
    have h := h.2
    rw [Oper.semAt_eq _ _ _ (plainA_spec hp hj0).2, execOp_put oj hsj a oi.dst v h1] at h
    rw [Oper.semAt_eq _ _ _ (plainA_spec hp hj0).2]
    have hnd : ∀ d w', (execOp a.eval oj).run P w = .ok (.defer d) w' → YieldsF ro P ops S_ oi v { a with defers := d :: a.defers } := fun d w' _ => hy.of_same rfl rfl
    generalize (execOp a.eval oj).run P w = r at *
    cases r with
    | ok x w' =>
      cases x <;> simp only [Oper.uponIn] at h ⊢
      case value u => exact ⟨keep a hy u, by rw [← Act.put_comm a v u h2]; exact h⟩
      case skip => exact ⟨keep a hy _, by rw [← Act.put_comm a v undef h2]; exact h⟩
      case defer d =>
        refine ⟨keep _ (hnd d w' rfl) _, ?_⟩
        rw [← Act.put_comm _ v undef h2, ← Act.put_defers]
        exact h
      case enter f args =>
        refine ⟨h.1, CallsIn.mono h.2 fun e w'' he => ?_⟩
        cases e with
        | returned u => exact ⟨keep a hy u, by rw [← Act.put_comm a v u h2]; exact he⟩
        | panicked c => exact hQ _ _ _ he
        | outgrown => exact he
      case row row args => exact ⟨h.1, RowsIn.mono h.2 fun u w'' he => ⟨keep a hy u, by rw [← Act.put_comm a v u h2]; exact he⟩⟩
      case round l f tmps assign body =>
        refine ⟨h.1, RoundIn.mono h.2 fun e w'' he => ?_⟩
        cases e with
        | returned u => exact ⟨keep a hy u, by rw [← Act.put_comm a v u h2]; exact he⟩
        | panicked c => exact hQ _ _ _ he
        | outgrown => exact he
    | halt x w' =>
      cases x <;> simp only [Oper.uponIn] at h ⊢
      case panic u => exact hQ _ _ _ h
  · rename_i hw
    simp only [hw] at h
    exact ⟨h.1, keep a hy _, by rw [← Act.put_comm a v undef h2]; exact h.2⟩
/-- Whatever order is picked; S_ holds behind every operation. -/
def wpAnyF (ro : Option Nat) (P : Program) (ops : Array Oper) (Q : Exit → Act → World → Prop) (S_ : World → Prop) : Nat → Array Bool → Act → World → Prop
  | 0, listed, a, w => Region.ready .any ops listed = [] ∧ Q .normal a w
  | fuel + 1, listed, a, w =>
    (Region.ready .any ops listed = [] → Q .normal a w) ∧
    ∀ i ∈ Region.ready .any ops listed, wpOpIn (Fw ro) 0 P ops Q i (fun a' w' => S_ w' ∧ wpAnyF ro P ops Q S_ fuel (listed.setIfInBounds i true) a' w') a w
theorem wpAnyIn_of_F : ∀ (fuel : Nat) (listed : Array Bool) (a : Act) (w : World), wpAnyF ro P ops Q S_ fuel listed a w → wpAnyIn (Fw ro) 0 P .any ops Q fuel listed a w
  | 0, _, _, _, h => h
  | fuel + 1, _, _, _, h => ⟨h.1, fun i hi => wpOpIn_mono (fun a' w' h' => wpAnyIn_of_F fuel _ a' w' h'.2) (h.2 i hi)⟩
theorem wpAnyF_first {i : Nat} {oi : Oper} {v : Value} (hp : plainA ops = true) (hi : ops[i]? = some oi)
    (hQ : ∀ c a w, Q (.panic c) (a.put oi.dst v) w → Q (.panic c) a w) :
    ∀ (fuel : Nat) (listed : Array Bool) (a : Act) (w : World),
      (∀ j oj, ops[j]? = some oj → j ≠ i → listed.getD j true = false → (∀ e ∈ oj.after, Region.binds .any e = true → e.on ≠ i) → oi.apart ops oj = true) →
      i ∈ Region.ready .any ops listed → YieldsF ro P ops S_ oi v a → S_ w →
      wpAnyF ro P ops Q S_ fuel (listed.setIfInBounds i true) (a.put oi.dst v) w → wpAnyF ro P ops Q S_ (fuel + 1) listed a w := by
  intro fuel
  induction fuel with
  | zero =>
    intro listed a w _ hr hy hS H
    refine ⟨fun h => (by rw [h] at hr; cases hr), fun j hj => ?_⟩
    by_cases hji : j = i
    · subst hji; exact hy.wpOpIn hp hi hS ⟨hS, H⟩
    · have := ready_mono hj hji
      rw [H.1] at this
      cases this
  | succ fuel ih =>
    intro listed a w hfree hr hy hS H
    refine ⟨fun h => (by rw [h] at hr; cases hr), fun j hj => ?_⟩
    by_cases hji : j = i
    · subst hji; exact hy.wpOpIn hp hi hS ⟨hS, H⟩
    · have h1 := H.2 j (ready_mono hj hji)
      obtain ⟨hjun, oj, hoj, hall⟩ := mem_ready.1 hj
      have hnot : ∀ e ∈ oj.after, Region.binds .any e = true → e.on ≠ i := fun e he hb heq => by
        have h1 := hall e he hb
        have h0 := (mem_ready.1 hr).1
        rw [heq] at h1
        rcases Nat.lt_or_ge i listed.size with h' | h'
        · simp [h'] at h0 h1; rw [h0] at h1; cases h1
        · simp [Array.getElem?_eq_none h'] at h1
      have h2 := wpOpIn_putF hp hi hoj (hfree j oj hoj hji hjun hnot) hQ hy h1
      have hfree' : ∀ k ok, ops[k]? = some ok → k ≠ i → (listed.setIfInBounds j true).getD k true = false →
          (∀ e ∈ ok.after, Region.binds .any e = true → e.on ≠ i) → oi.apart ops ok = true := fun k ok hk hki hun hno => by
        refine hfree k ok hk hki ?_ hno
        by_cases hjk : j = k
        · subst hjk; exact hjun
        · rw [getD_set_ne true hjk] at hun; exact hun
      refine wpOpIn_mono (fun a' w' h3 => ⟨h3.2.1, ih (listed.setIfInBounds j true) a' w' hfree' (ready_mono hr (Ne.symm hji)) h3.1 h3.2.1 ?_⟩) h2
      rw [Array.setIfInBounds_comm _ _ hji]
      exact h3.2.2
end

/-- Which have come up, by a number's bits. -/
def bm (m k : Nat) : List Bool := (List.range m).map fun i => k.testBit i
section
variable (P : Program) (ro : Option Nat) (B : Post) (n : Nat) (ds : List Deferred) (k : List Kont)
/-- Any order of what is left. -/
def Any (all : Array Oper) (S_ : World → Prop) (fuel : Nat) (listed : List Bool) (l : Env) (w : World) : Prop := ∀ a, E n ds l a → S_ w → wpAnyF ro P all (post P ro B k) S_ fuel listed.toArray a w
/-- Behind one that came up. -/
def AnyI (all : Array Oper) (S_ : World → Prop) (fuel : Nat) (listed : List Bool) (a : Act) (w : World) : Prop := S_ w ∧ wpAnyF ro P all (post P ro B k) S_ fuel listed.toArray a w
end
section
variable {P : Program} {ro : Option Nat} {B : Post} {n : Nat} {ds : List Deferred} {k : List Kont} {l : Env} {w : World} {all : Array Oper} {S_ : World → Prop} {fuel : Nat} {listed : List Bool}
/-- A way out by a panic minds no slot. -/
def PanK (B : Post) : Prop := ∀ (c : List PanicEntry) (a : Act) (d : Option Tmp) (v : Value) (w : World), B (.panic c) (a.put d v) w → B (.panic c) a w
theorem panK_FB {fn : Func} {R : Ending → World → Prop} : PanK (FB P fn R) := by
  intro c a d v w h
  have hd : (a.put d v).defers = a.defers := by cases d <;> rfl
  exact ⟨hd.symm.trans h.1, h.2⟩
theorem panK_False {f : Exit → Act → World → Prop} (h : ∀ c a w, ¬ f (.panic c) a w) : PanK f := fun c a d v w hp => (h c _ w hp).elim
theorem at_draw {id m : Nat} (S_ : World → Prop) (hm : P.follows .mixedOrders = true) (hsz : all.size = m) (hlen : (List.replicate m false) = listed)
    (h : ∀ w', Chg [] w.heap.size w w' → w'.heap.size = w.heap.size → w'.os = w.os → w' = w.drew → S_ w' ∧ Any P ro B n ds k all S_ m listed l w') : At P ro B n ds k (.region id all true) l w := by
  subst hsz
  intro a ha
  refine wpIn_region_any hm (wpAnyIn_of_F (S_ := S_) _ _ _ _ ?_)
  obtain ⟨h1, h2⟩ := h _ (Chg.drew w) rfl rfl rfl
  have := h2 a ha h1
  rw [← hlen, show (List.replicate all.size false).toArray = Array.replicate all.size false from by simp] at this
  exact this
/-- A value that is there whatever the order: taken first. -/
def take1 (P : Program) (all : Array Oper) (n : Nat) (i : Nat) (listed : List Bool) (l : Env) : Option (List Bool × Env) :=
  match all[i]? with
  | none => none
  | some o =>
    bif Region.free .any all listed.toArray i && (Region.ready .any all listed.toArray).contains i then
      (match step1 P all n o l with | some l' => some (listed.set i true, l') | none => none)
    else none
theorem set_toArray (listed : List Bool) (i : Nat) : listed.toArray.setIfInBounds i true = (listed.set i true).toArray := by simp
theorem any_take1 {i : Nat} {listed' : List Bool} {l' : Env} (hB : PanK B) (hp : plainA all = true) (h : take1 P all n i listed l = some (listed', l')) (next : Any P ro B n ds k all S_ fuel listed' l' w) : Any P ro B n ds k all S_ (fuel + 1) listed l w := by
  intro a ha hS
  unfold take1 at h
  split at h
  · simp at h
  rename_i o ho
  cases hc : (Region.free .any all listed.toArray i && (Region.ready .any all listed.toArray).contains i) with
  | false => rw [hc] at h; simp at h
  | true =>
    rw [hc] at h
    simp only [cond_true] at h
    split at h
    · rename_i l1 h1
      simp only [Option.some.injEq, Prod.mk.injEq] at h
      obtain ⟨rfl, rfl⟩ := h
      simp only [Bool.and_eq_true] at hc
      have hQ : ∀ v c a w, post P ro B k (.panic c) (a.put o.dst v) w → post P ro B k (.panic c) a w := fun v c a w hp => by rw [post_panic] at *; exact hB _ _ _ _ _ hp
      unfold step1 at h1
      split at h1
      · simp at h1
      · rename_i hg
        cases hd : dOk n o.dst with
        | false => rw [hd] at h1; simp at h1
        | true =>
          rw [hd] at h1; simp at h1; subst h1
          refine wpAnyF_first hp ho (hQ undef) fuel _ _ _ (Region.free_spec ho hc.1) (by simpa using hc.2) (.inr ⟨wants_eq ha hg, rfl⟩) hS ?_
          rw [set_toArray]
          exact next _ (ha.putD _ _ hd) hS
      · rename_i hg
        cases hd : (okO l o && dOk n o.dst) with
        | false => rw [hd] at h1; simp at h1
        | true =>
          rw [hd] at h1
          simp only [cond_true] at h1
          split at h1
          · rename_i v hv
            simp at h1; subst h1
            simp only [Bool.and_eq_true] at hd
            have he : execOp a.eval o = execOp (lk l) o := by
              have := exec_eq (ro := none) ha hd.1
              rwa [Fw_round, Oper.semAt_none] at this
            refine wpAnyF_first hp ho (hQ v) fuel _ _ _ (Region.free_spec ho hc.1) (by simpa using hc.2) (.inl ⟨wants_eq ha hg, fun w _ => by rw [he]; exact vrun_run hv⟩) hS ?_
            rw [set_toArray]
            exact next _ (ha.putD _ _ hd.2) hS
          · simp at h1
    · simp at h
def takes (P : Program) (all : Array Oper) (n : Nat) : List Nat → List Bool → Env → Option (List Bool × Env)
  | [], listed, l => some (listed, l)
  | i :: is, listed, l => match take1 P all n i listed l with | some (listed', l') => takes P all n is listed' l' | none => none
theorem any_takes0 (hB : PanK B) (hp : plainA all = true) : ∀ (is : List Nat) {listed listed' : List Bool} {l l' : Env}, takes P all n is listed l = some (listed', l') → Any P ro B n ds k all S_ fuel listed' l' w → Any P ro B n ds k all S_ (fuel + is.length) listed l w
  | [], listed, listed', l, l', h, next => by simp [takes] at h; obtain ⟨rfl, rfl⟩ := h; exact next
  | i :: is, listed, listed', l, l', h, next => by
    unfold takes at h
    split at h
    · rename_i a b h1
      exact any_take1 hB hp h1 (any_takes0 hB hp is h next)
    · simp at h
def takesP (P : Program) (all : Array Oper) (n : Nat) (is : List Nat) (listed : List Bool) (l : Env) (ts : List Nat) : Option (List Bool × Env) :=
  match takes P all n is listed l with | some (listed', l1) => (match proj ts l1 with | some l' => some (listed', l') | none => none) | none => none
/-- Several, by the kernel. -/
theorem any_takes (is : List Nat) {fuel' : Nat} {listed' : List Bool} {l' : Env} (hB : PanK B) (hp : plainA all = true) (h : takesP P all n is listed l (l'.map (·.1)) = some (listed', l')) (hf : fuel' + is.length = fuel)
    (next : Any P ro B n ds k all S_ fuel' listed' l' w) : Any P ro B n ds k all S_ fuel listed l w := by
  subst hf
  unfold takesP at h
  split at h
  · rename_i a b h1
    split at h
    · rename_i l2 h2
      simp only [Option.some.injEq, Prod.mk.injEq] at h
      obtain ⟨rfl, rfl⟩ := h
      exact any_takes0 hB hp is h1 (fun a ha hS => next a (ha.sub (proj_sub _ h2)) hS)
    · simp at h
  · simp at h
/-- A load of a cell that stays as it is: taken first. -/
theorem any_load {i : Nat} {d : Option Tmp} {ty : TypeId} {p : String} {af : Array Edge} {g : Option (Nat × Bool)} {t : TypeId} {x : Operand} {b j : Nat} {cs : List Value} {T : TypeId} {v : Value} {listed' : List Bool} (hB : PanK B) (hp : plainA all = true)
    (ho : all[i]? = some ⟨d, .load t x, ty, p, af, g⟩) (hfr : (Region.free .any all listed.toArray i && (Region.ready .any all listed.toArray).contains i) = true) (hl : listed.set i true = listed')
    (hg : wantsO all l g = some true) (hok : (okO l ⟨d, .load t x, ty, p, af, g⟩ && dOk n d) = true) (hx : lk l x = .pointer (some ⟨b, j, none⟩))
    (hag : aggB P t = some false) (hb : ∀ w, S_ w → Blk w b cs T) (hv : cs[j]? = some v) (next : Any P ro B n ds k all S_ fuel listed' (putD l d v) w) : Any P ro B n ds k all S_ (fuel + 1) listed l w := by
  intro a ha hS
  simp only [Bool.and_eq_true] at hfr hok
  have hQ : ∀ c a w, post P ro B k (.panic c) (a.put d v) w → post P ro B k (.panic c) a w := fun c a w hp => by rw [post_panic] at *; exact hB _ _ _ _ _ hp
  have he : execOp a.eval ⟨d, .load t x, ty, p, af, g⟩ = execOp (lk l) ⟨d, .load t x, ty, p, af, g⟩ := by
    have := exec_eq (ro := none) ha hok.1
    rwa [Fw_round, Oper.semAt_none] at this
  refine wpAnyF_first hp ho hQ fuel _ _ _ (Region.free_spec ho hfr.1) (by simpa using hfr.2) (.inl ⟨wants_eq ha hg, fun w hw => ?_⟩) hS ?_
  · rw [he]
    have hc := ((hb w hw).cell j).trans hv
    simp [execOp, hx, Instr.loadAt, Instr.sureAddr, loadVar, isAgg_of hag, hc]
  · rw [set_toArray, hl]
    exact next _ (ha.putD _ _ hok.2) hS
/-- A struct that stays as it is. -/
theorem any_loadS {i : Nat} {d : Option Tmp} {ty : TypeId} {p : String} {af : Array Edge} {g : Option (Nat × Bool)} {t : TypeId} {x : Operand} {b j : Nat} {cs vs : List Value} {T : TypeId} {listed' : List Bool} (m : Nat) (hB : PanK B) (hp : plainA all = true)
    (ho : all[i]? = some ⟨d, .load t x, ty, p, af, g⟩) (hfr : (Region.free .any all listed.toArray i && (Region.ready .any all listed.toArray).contains i) = true) (hl : listed.set i true = listed')
    (hg : wantsO all l g = some true) (hok : (okO l ⟨d, .load t x, ty, p, af, g⟩ && dOk n d) = true) (hx : lk l x = .pointer (some ⟨b, j, none⟩))
    (hag : aggB P t = some true) (hsz : (P.info? t).map (·.size) = some m) (hb : ∀ w, S_ w → Blk w b cs T) (hle : Nat.ble (j + m) cs.length = true) (hv : (cs.drop j).take m = vs) (next : Any P ro B n ds k all S_ fuel listed' (putD l d (.agg vs.toArray)) w) : Any P ro B n ds k all S_ (fuel + 1) listed l w := by
  intro a ha hS
  simp only [Bool.and_eq_true] at hfr hok
  have hQ : ∀ c a w, post P ro B k (.panic c) (a.put d (.agg vs.toArray)) w → post P ro B k (.panic c) a w := fun c a w hp => by rw [post_panic] at *; exact hB _ _ _ _ _ hp
  have he : execOp a.eval ⟨d, .load t x, ty, p, af, g⟩ = execOp (lk l) ⟨d, .load t x, ty, p, af, g⟩ := by
    have := exec_eq (ro := none) ha hok.1
    rwa [Fw_round, Oper.semAt_none] at this
  refine wpAnyF_first hp ho hQ fuel _ _ _ (Region.free_spec ho hfr.1) (by simpa using hfr.2) (.inl ⟨wants_eq ha hg, fun w hw => ?_⟩) hS ?_
  · rw [he]
    obtain ⟨i0, hi0, hs0⟩ := Option.map_eq_some_iff.1 hsz
    have h := run_loadCells_blk (P := P) (i := j) (hb w hw) m 0 #[] (by have := Nat.le_of_ble_eq_true hle; omega)
    simp [execOp, hx, Instr.loadAt, Instr.sureAddr, loadVar, isAgg_of hag, sizeOf, typeInfo, hi0, hs0, loadCells, h]
    rw [← hv]
  · rw [set_toArray, hl]
    exact next _ (ha.putD _ _ hok.2) hS
theorem wpOp_of_ops {i : Nat} {o : Oper} {I : Act → World → Prop} (ho : all[i]? = some o) {a : Act} (h : wpListIn (Fw ro) 0 P all (post P ro B (.inv I :: k)) [o] a w) : wpOpIn (Fw ro) 0 P all (post P ro B k) i I a w := by
  unfold wpOpIn
  simp only [ho]
  unfold wpListIn at h
  split
  · rename_i hw
    rw [if_pos hw] at h
    unfold Oper.wpIn at *
    refine ⟨h.1, ?_⟩
    have h := h.2
    generalize (o.semAt (Fw ro).round a.eval).run P w = r at *
    cases r with
    | ok x w' =>
      cases x <;> simp only [Oper.uponIn] at h ⊢
      case value u => exact h
      case skip => exact h
      case defer d => exact h
      case enter f args =>
        refine ⟨h.1, CallsIn.mono h.2 fun e w'' he => ?_⟩
        cases e with
        | returned u => exact he
        | panicked c =>
          have he : post P ro B (.inv I :: k) (.panic c) a w'' := he
          rw [post_panic] at he
          show post P ro B k (.panic c) a w''
          rw [post_panic]; exact he
        | outgrown => exact he
      case row row args => exact ⟨h.1, RowsIn.mono h.2 fun u w'' he => he⟩
      case round l f tmps assign body =>
        refine ⟨h.1, RoundIn.mono h.2 fun e w'' he => ?_⟩
        cases e with
        | returned u => exact he
        | panicked c =>
          have he : post P ro B (.inv I :: k) (.panic c) a w'' := he
          rw [post_panic] at he
          show post P ro B k (.panic c) a w''
          rw [post_panic]; exact he
        | outgrown => exact he
    | halt x w' =>
      cases x <;> simp only [Oper.uponIn] at h ⊢
      case panic =>
        have h : post P ro B (.inv I :: k) (.panic [{ v := _, recovered := false }]) a w' := h
        rw [post_panic] at h
        rw [post_panic]; exact h
  · rename_i hw
    rw [if_neg hw] at h
    exact ⟨h.1, h.2⟩
/-- Whichever comes up. -/
theorem any_all (rs : List Nat) (hr : Region.ready .any all listed.toArray = rs) (hne : rs ≠ [])
    (h : ∀ i, i ∈ rs → ∃ o, all[i]? = some o ∧ ∃ listed', listed.set i true = listed' ∧ Ops P ro B n ds (.inv (AnyI P ro B k all S_ fuel listed') :: k) all [o] l w) : Any P ro B n ds k all S_ (fuel + 1) listed l w := by
  intro a ha hS
  refine ⟨fun h0 => absurd (hr ▸ h0) hne, fun i hi => ?_⟩
  rw [hr] at hi
  obtain ⟨o, ho, listed', hl, hops⟩ := h i hi
  rw [set_toArray, hl]
  exact wpOp_of_ops ho (hops a ha)
theorem any_1 {o1 : Oper} (i1 : Nat) (L1 : List Bool) (hr : Region.ready .any all listed.toArray = [i1]) (h1 : all[i1]? = some o1) (g1 : listed.set i1 true = L1) (n1 : Ops P ro B n ds (.inv (AnyI P ro B k all S_ fuel L1) :: k) all [o1] l w) : Any P ro B n ds k all S_ (fuel + 1) listed l w :=
  any_all [i1] hr (by simp) fun i hi => by simp at hi; subst hi; exact ⟨_, h1, _, g1, n1⟩
theorem any_2 {o1 o2 : Oper} (i1 : Nat) (L1 : List Bool) (i2 : Nat) (L2 : List Bool) (hr : Region.ready .any all listed.toArray = [i1, i2]) (h1 : all[i1]? = some o1) (g1 : listed.set i1 true = L1) (h2 : all[i2]? = some o2) (g2 : listed.set i2 true = L2)
    (n1 : Ops P ro B n ds (.inv (AnyI P ro B k all S_ fuel L1) :: k) all [o1] l w) (n2 : Ops P ro B n ds (.inv (AnyI P ro B k all S_ fuel L2) :: k) all [o2] l w) : Any P ro B n ds k all S_ (fuel + 1) listed l w :=
  any_all [i1, i2] hr (by simp) fun i hi => by
    simp at hi
    rcases hi with rfl | rfl
    · exact ⟨_, h1, _, g1, n1⟩
    · exact ⟨_, h2, _, g2, n2⟩
theorem any_3 {o1 o2 o3 : Oper} (i1 : Nat) (L1 : List Bool) (i2 : Nat) (L2 : List Bool) (i3 : Nat) (L3 : List Bool) (hr : Region.ready .any all listed.toArray = [i1, i2, i3]) (h1 : all[i1]? = some o1) (g1 : listed.set i1 true = L1) (h2 : all[i2]? = some o2) (g2 : listed.set i2 true = L2) (h3 : all[i3]? = some o3) (g3 : listed.set i3 true = L3)
    (n1 : Ops P ro B n ds (.inv (AnyI P ro B k all S_ fuel L1) :: k) all [o1] l w) (n2 : Ops P ro B n ds (.inv (AnyI P ro B k all S_ fuel L2) :: k) all [o2] l w) (n3 : Ops P ro B n ds (.inv (AnyI P ro B k all S_ fuel L3) :: k) all [o3] l w) : Any P ro B n ds k all S_ (fuel + 1) listed l w :=
  any_all [i1, i2, i3] hr (by simp) fun i hi => by
    simp at hi
    rcases hi with rfl | rfl | rfl
    · exact ⟨_, h1, _, g1, n1⟩
    · exact ⟨_, h2, _, g2, n2⟩
    · exact ⟨_, h3, _, g3, n3⟩
/-- Behind one that came up. -/
theorem nx_any (hS : S_ w) (h : Any P ro B n ds k all S_ fuel listed l w) : Nx P ro B n ds (.inv (AnyI P ro B k all S_ fuel listed) :: k) l w := fun a ha => ⟨hS, h a ha hS⟩
theorem any_done (hr : Region.ready .any all listed.toArray = []) (h : Nx P ro B n ds k l w) : Any P ro B n ds k all S_ fuel listed l w := by
  intro a ha hS
  cases fuel with
  | zero => exact ⟨hr, h a ha⟩
  | succ f => exact ⟨fun _ => h a ha, fun i hi => by rw [hr] at hi; cases hi⟩
end
end Go.Kw
