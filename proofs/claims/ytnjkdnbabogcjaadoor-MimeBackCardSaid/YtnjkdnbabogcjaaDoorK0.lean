/- Rules of a walk over explicit environments: my own text. Each rule is a plain theorem over whatever program. -/
import Derived.WalkKit
import Derived.OrdersHeld
import Derived.RangeFuncLeaves
import Derived.TacticsInMore
set_option linter.unusedVariables false
set_option linter.unusedSimpArgs false
namespace Go.Kw
open Go Go.RowKit

/-! ### Environments: what is known of a frame's slots -/
abbrev Env := List (Nat × Value)
def lkT : Env → Nat → Option Value
  | [], _ => none
  | (k, v) :: r, t => bif Nat.beq k t then some v else lkT r t
def lk (l : Env) : Operand → Value
  | .tmp t => (lkT l t).getD undef
  | .const v => v
  | .global g => .pointer (some ⟨g, 0, none⟩)
  | .func f => .func (.func f) #[] #[]
def cov (l : Env) : Operand → Bool
  | .tmp t => (lkT l t).isSome
  | _ => true
structure E (n : Nat) (ds : List Deferred) (l : Env) (a : Act) : Prop where
  size : a.tmps.size = n
  defers : a.defers = ds
  have_ : ∀ t v, lkT l t = some v → a.tmps[t]? = some v

theorem lkT_cons (k : Nat) (v : Value) (l : Env) (t : Nat) : lkT ((k, v) :: l) t = if k = t then some v else lkT l t := by
  show (bif Nat.beq k t then some v else lkT l t) = _
  by_cases h : k = t
  · subst h; simp
  · have : Nat.beq k t = false := by
      cases hb : Nat.beq k t
      · rfl
      · exact absurd (Nat.eq_of_beq_eq_true hb) h
    rw [this]; simp [h]
theorem E.eval {n : Nat} {ds : List Deferred} {l : Env} {a : Act} (h : E n ds l a) (x : Operand) (hx : cov l x = true) : a.eval x = lk l x := by
  cases x with
  | tmp t =>
    simp only [cov] at hx
    obtain ⟨v, hv⟩ := Option.isSome_iff_exists.1 hx
    have := h.have_ t v hv
    simp [Act.eval, lk, hv, Array.getD_eq_getD_getElem?, this]
  | const v => rfl
  | global g => rfl
  | func f => rfl
theorem E.put {n : Nat} {ds : List Deferred} {l : Env} {a : Act} (h : E n ds l a) (t : Nat) (v : Value) (ht : t < n) : E n ds ((t, v) :: l) (a.put (some t) v) := by
  refine ⟨by simp [Act.put, h.size], by simp [Act.put, h.defers], fun u x hu => ?_⟩
  rw [lkT_cons] at hu
  by_cases he : t = u
  · subst he
    rw [if_pos rfl] at hu
    simp [Act.put, Array.getElem?_setIfInBounds, h.size, ht]
    simpa using hu
  · rw [if_neg he] at hu
    have := h.have_ u x hu
    simp [Act.put, Array.getElem?_setIfInBounds, he, this]
/-- What is known less. -/
def Sub (l' l : Env) : Prop := ∀ t v, lkT l' t = some v → lkT l t = some v
theorem Sub.nil (l : Env) : Sub [] l := fun t v h => by simp [lkT] at h
theorem Sub.cons {l l' : Env} {t : Nat} {v : Value} (h : lkT l t = some v) (r : Sub l' l) : Sub ((t, v) :: l') l := by
  intro u x hu
  rw [lkT_cons] at hu
  split at hu
  · rename_i e; subst e; rw [h]; exact hu
  · exact r u x hu
theorem Sub.refl (l : Env) : Sub l l := fun _ _ h => h
theorem E.sub {n : Nat} {ds : List Deferred} {l l' : Env} {a : Act} (h : E n ds l a) (hs : Sub l' l) : E n ds l' a := ⟨h.size, h.defers, fun t v hv => h.have_ t v (hs t v hv)⟩
/-- Like Sub, each value up to an equation: 'Sube.cons rfl' or 'Sube.cons (by rw [..])'. -/
def inEnv (l : Env) (t : Nat) (v : Value) : Prop := lkT l t = some v

def putD (l : Env) (d : Option Tmp) (v : Value) : Env := match d with | some t => (t, v) :: l | none => l
def dOk (n : Nat) : Option Tmp → Bool | some t => Nat.blt t n | none => true
theorem E.putD {n : Nat} {ds : List Deferred} {l : Env} {a : Act} (h : E n ds l a) (d : Option Tmp) (v : Value) (hd : dOk n d = true) : E n ds (putD l d v) (a.put d v) := by
  cases d with
  | none => exact h
  | some t => exact h.put t v (by simpa [dOk, Nat.blt_eq] using hd)

/-! ### What is still to come -/
/-- The fence: none; in a round or not. -/
def Fw : Option Nat → Fence
  | none => Fence.wide
  | some r => Fence.wide.inRound r
theorem Fw_fn (ro : Option Nat) (f : FuncId) : (Fw ro).fn f := by cases ro <;> trivial
theorem Fw_round (ro : Option Nat) : (Fw ro).round = ro := by cases ro <;> rfl
theorem Fw_depth (ro : Option Nat) : (Fw ro).depth = none := by cases ro <;> rfl
abbrev Post := Exit → Act → World → Prop
inductive Kont where
  | seq (c : Code)
  | blk (id : Nat)
  | inv (I : Act → World → Prop)
def post (P : Program) (ro : Option Nat) (B : Post) : List Kont → Post
  | [] => B
  | .seq c :: k => Exit.then (c.wpIn (Fw ro) 0 P (post P ro B k)) (post P ro B k)
  | .blk id :: k => Exit.inBlock id (post P ro B k)
  | .inv I :: k => Exit.then I (post P ro B k)
/-- What a function's body must come to. -/
def FB (P : Program) (fn : Func) (R : Ending → World → Prop) : Post
  | .panic ch, a, w => a.defers = [] ∧ R (.panicked ch) w
  | e, a, w => bodyPostM (Fw none) 0 P fn R e a w

section
variable (P : Program) (ro : Option Nat) (B : Post) (n : Nat) (ds : List Deferred) (k : List Kont)
def At (c : Code) (l : Env) (w : World) : Prop := ∀ a, E n ds l a → c.wpIn (Fw ro) 0 P (post P ro B k) a w
def Ops (all : Array Oper) (ops : List Oper) (l : Env) (w : World) : Prop := ∀ a, E n ds l a → wpListIn (Fw ro) 0 P all (post P ro B k) ops a w
def Nx (l : Env) (w : World) : Prop := ∀ a, E n ds l a → post P ro B k .normal a w
def Ex (id : Nat) (l : Env) (w : World) : Prop := ∀ a, E n ds l a → post P ro B k (.exit id) a w
end

section
variable {P : Program} {fn : Func} {R : Ending → World → Prop} {ro : Option Nat} {B : Post} {n : Nat} {ds : List Deferred} {k : List Kont} {l : Env} {w : World}

theorem post_ret : ∀ (k : List Kont) (a : Act) (w : World), post P ro B k .ret a w = B .ret a w
  | [], _, _ => rfl
  | .seq _ :: k, a, w => post_ret k a w
  | .blk _ :: k, a, w => post_ret k a w
  | .inv _ :: k, a, w => post_ret k a w
theorem post_panic (ch : List PanicEntry) : ∀ (k : List Kont) (a : Act) (w : World), post P ro B k (.panic ch) a w = B (.panic ch) a w
  | [], _, _ => rfl
  | .seq _ :: k, a, w => post_panic ch k a w
  | .blk _ :: k, a, w => post_panic ch k a w
  | .inv _ :: k, a, w => post_panic ch k a w

/-! ### Entering -/
def envOf : Nat → List Value → Env
  | _, [] => []
  | i, v :: r => (i, v) :: envOf (i + 1) r
theorem lkT_envOf : ∀ (vs : List Value) (i t : Nat) (v : Value), lkT (envOf i vs) t = some v → i ≤ t ∧ vs[t - i]? = some v
  | [], i, t, v, h => by simp [envOf, lkT] at h
  | x :: r, i, t, v, h => by
    rw [envOf, lkT_cons] at h
    split at h
    · rename_i e; subst e; simp_all
    · rename_i ne
      obtain ⟨h1, h2⟩ := lkT_envOf r (i + 1) t v h
      refine ⟨by omega, ?_⟩
      rw [show t - i = (t - (i + 1)) + 1 by omega]
      simpa using h2
theorem enter {f : FuncId} {c : Code} {args : List Value} (hf : P.funcs[f]? = some fn) (hb : fn.body = some c) (hn : fn.ntmps = n) (ha : args.length ≤ n)
    (h : At P none (FB P fn R) n [] [] c (envOf 0 args) w) : Calls P f args.toArray w R := by
  refine (callsIn_wide (n := 0)).1 (callsIn_of_wp_marks hf hb trivial (wpIn_mono (h _ ⟨?_, rfl, fun t v hv => ?_⟩) fun e a w h => ?_))
  · simp [hn]; omega
  · obtain ⟨_, h2⟩ := lkT_envOf _ _ _ _ hv
    have hlt : t < args.length := by have := (List.getElem?_eq_some_iff.1 h2).1; omega
    simp [Array.getElem?_append, hlt]
    simpa [List.getElem?_eq_getElem hlt] using h2
  · cases e <;> first | exact h | skip
    obtain ⟨hd, hR⟩ := h
    show LeavesInM _ _ _ _ _ _ _ _ _
    rw [hd]
    exact hR

/-! ### Code -/
theorem at_seq {x y : Code} (h : At P ro B n ds (.seq y :: k) x l w) : At P ro B n ds k (.seq x y) l w := fun a ha => wpIn_seq (h a ha)
theorem at_skip (h : Nx P ro B n ds k l w) : At P ro B n ds k .skip l w := fun a ha => wpIn_skip (h a ha)
theorem at_block {id : Nat} {c : Code} (h : At P ro B n ds (.blk id :: k) c l w) : At P ro B n ds k (.block id c) l w := fun a ha => wpIn_block (h a ha)
theorem at_region {id : Nat} {ops : List Oper} (h : Ops P ro B n ds k ops.toArray ops l w) : At P ro B n ds k (.region id ops.toArray false) l w := fun a ha => wpIn_region_lit (h a ha)
theorem at_sub {c : Code} (l' : Env) (hs : Sub l' l) (h : At P ro B n ds k c l' w) : At P ro B n ds k c l w := fun a ha => h a (ha.sub hs)
theorem ops_sub {all : Array Oper} {ops : List Oper} (l' : Env) (hs : Sub l' l) (h : Ops P ro B n ds k all ops l' w) : Ops P ro B n ds k all ops l w := fun a ha => h a (ha.sub hs)
theorem nx_sub (l' : Env) (hs : Sub l' l) (h : Nx P ro B n ds k l' w) : Nx P ro B n ds k l w := fun a ha => h a (ha.sub hs)
/-- A branch by a Bool. -/
theorem at_if {c : Operand} {x y : Code} (b : Bool) (hc : (cov l c, lk l c) = (true, .bool b)) (ht : b = true → At P ro B n ds k x l w) (hf : b = false → At P ro B n ds k y l w) : At P ro B n ds k (.cond c x y) l w := by
  intro a ha
  simp only [Prod.mk.injEq] at hc
  exact wpIn_cond_split ((ha.eval c hc.1).trans hc.2) (fun e => ht e a ha) (fun e => hf e a ha)
/-- A branch by a proposition. -/
theorem at_ifp {c : Operand} {x y : Code} (p : Prop) [Decidable p] (hc : (cov l c, lk l c) = (true, .bool (decide p))) (ht : p → At P ro B n ds k x l w) (hf : ¬p → At P ro B n ds k y l w) : At P ro B n ds k (.cond c x y) l w :=
  at_if (decide p) hc (fun e => ht (of_decide_eq_true e)) (fun e => hf (of_decide_eq_false e))
theorem at_ifn {c : Operand} {x y : Code} (p : Prop) [Decidable p] (hc : (cov l c, lk l c) = (true, .bool (!decide p))) (ht : ¬p → At P ro B n ds k x l w) (hf : p → At P ro B n ds k y l w) : At P ro B n ds k (.cond c x y) l w :=
  at_if (!decide p) hc (fun e => ht (by simpa using e)) (fun e => hf (by simpa using e))
theorem at_ift {c : Operand} {x y : Code} (hc : (cov l c, lk l c) = (true, .bool true)) (ht : At P ro B n ds k x l w) : At P ro B n ds k (.cond c x y) l w :=
  at_if true hc (fun _ => ht) (fun e => absurd e (by simp))
theorem at_iff {c : Operand} {x y : Code} (hc : (cov l c, lk l c) = (true, .bool false)) (hf : At P ro B n ds k y l w) : At P ro B n ds k (.cond c x y) l w :=
  at_if false hc (fun e => absurd e (by simp)) (fun _ => hf)
theorem at_exit {id : Nat} (h : Ex P ro B n ds k id l w) : At P ro B n ds k (.exit id) l w := fun a ha => wpIn_exit (h a ha)
theorem ex_seq {id : Nat} {c : Code} (h : Ex P ro B n ds k id l w) : Ex P ro B n ds (.seq c :: k) id l w := h
theorem ex_inv {id : Nat} {I : Act → World → Prop} (h : Ex P ro B n ds k id l w) : Ex P ro B n ds (.inv I :: k) id l w := h
theorem ex_here {id : Nat} (h : Nx P ro B n ds k l w) : Ex P ro B n ds (.blk id :: k) id l w := fun a ha => by
  show Exit.inBlock id (post P ro B k) (.exit id) a w
  simp only [Exit.inBlock, if_true]
  exact h a ha
theorem ex_past {id id' : Nat} (hne : Nat.beq id id' = false) (h : Ex P ro B n ds k id l w) : Ex P ro B n ds (.blk id' :: k) id l w := fun a ha => by
  show Exit.inBlock id' (post P ro B k) (.exit id) a w
  have : id ≠ id' := by intro e; subst e; simp at hne
  simp only [Exit.inBlock, if_neg this]
  exact h a ha
theorem nx_seq {c : Code} (h : At P ro B n ds k c l w) : Nx P ro B n ds (.seq c :: k) l w := fun a ha => h a ha
theorem nx_blk {id : Nat} (h : Nx P ro B n ds k l w) : Nx P ro B n ds (.blk id :: k) l w := fun a ha => h a ha

/-! ### Results -/
def resTmp (rs : List ResultVar) (l : Env) : Option (List Value) :=
  match rs with
  | [] => some []
  | .tmp t :: r => (lkT l t).bind fun v => (resTmp r l).bind fun vs => some (v :: vs)
  | _ => none
def shut (vs : List Value) : Value := match vs with | [v] => v | vs => .tuple vs.toArray
theorem mapM_res {a : Act} (ha : E n ds l a) (f : ResultVar → Sem Value) (hf : ∀ t, f (.tmp t) = pure (a.tmps.getD t undef)) : ∀ (rs : List ResultVar) (vs : List Value), resTmp rs l = some vs → (rs.mapM f).run P w = .ok vs w
  | [], vs, h => by simp [resTmp] at h; subst h; rfl
  | .cell _ _ :: r, vs, h => by simp [resTmp] at h
  | .tmp t :: r, vs, h => by
    simp only [resTmp, Option.bind_eq_some_iff] at h
    obtain ⟨v, hv, us, hu, rfl⟩ := by simpa using h
    have h1 := ha.have_ t v hv
    have ih := mapM_res ha f hf r us hu
    simp [List.mapM_cons, hf, ih, Array.getD_eq_getD_getElem?, h1]
theorem results_env {a : Act} (ha : E n ds l a) {rs : List ResultVar} {vs : List Value} (hr : fn.results = rs.toArray) (hv : resTmp rs l = some vs) : (results fn a.tmps).run P w = .ok (shut vs) w := by
  unfold results
  rw [hr, List.mapM_toArray]
  simp only [Sem.run_bind, Sem.run_map]
  rw [mapM_res (vs := vs) ha]
  · rcases vs with _ | ⟨v, _ | ⟨u, vs⟩⟩ <;> simp [shut]
  · intro t; rfl
  · exact hv
theorem at_ret {rs : List ResultVar} {vs : List Value} (hr : fn.results = rs.toArray) (hv : resTmp rs l = some vs) (hR : R (.returned (shut vs)) w) : At P none (FB P fn R) n [] k .ret l w := by
  intro a ha
  refine wpIn_ret ?_
  rw [post_ret]
  show LeavesInM _ _ _ _ _ _ _ _ _
  rw [ha.defers]
  exact ⟨_, results_env ha hr hv, hR⟩
theorem nx_ret {rs : List ResultVar} {vs : List Value} (hr : fn.results = rs.toArray) (hv : resTmp rs l = some vs) (hR : R (.returned (shut vs)) w) : Nx P none (FB P fn R) n [] [] l w := by
  intro a ha
  show LeavesInM _ _ _ _ _ _ _ _ _
  rw [ha.defers]
  exact ⟨_, results_env ha hr hv, hR⟩
/-- A function's way out by a panic. -/
theorem out_panic {ch : List PanicEntry} {a : Act} (ha : E n [] l a) (hR : R (.panicked ch) w) : FB P fn R (.panic ch) a w := ⟨ha.defers, hR⟩

/-! ### Loops; ways that meet -/
theorem at_loop {c : Code} {X : Type} (L : X → Env) (Φ : X → World → Prop) (μ : X → Nat) (x0 : X) (hs : Sub (L x0) l) (h0 : Φ x0 w)
    (round : ∀ x w, Φ x w → At P ro B n ds (.inv (fun a' w' => ∃ x', E n ds (L x') a' ∧ Φ x' w' ∧ μ x' < μ x) :: k) c (L x) w) : At P ro B n ds k (.loop c) l w := by
  intro a ha b kk cs hro hb hr
  have key : ∀ m x a w, μ x = m → E n ds (L x) a → Φ x w →
      ∃ e a' w', post P ro B k e a' w' ∧ ArrivesIn (Machine.fenced P (Fw ro)) P (lone (b.atR a (.code c :: .inLoop c :: kk)) cs w) b kk cs e a' w' := by
    intro m
    induction m using Nat.strongRecOn with
    | _ m ih =>
      intro x a w hm hE hΦ
      obtain ⟨e, a₁, w₁, hq, harr⟩ := round x w hΦ a hE b (.inLoop c :: kk) cs hro hb hr
      cases e with
      | normal =>
        obtain ⟨x', hE', hΦ', hlt⟩ := hq
        obtain ⟨e₂, a₂, w₂, hq₂, harr₂⟩ := ih (μ x') (hm ▸ hlt) x' a₁ w₁ rfl hE' hΦ'
        exact ⟨e₂, a₂, w₂, hq₂, .of_steps (StepsIn.trans harr (.one (fenced_calm hb hr rfl) stepR_inLoop)) harr₂⟩
      | exit id => exact ⟨_, a₁, w₁, hq, .pass (x := .inLoop c) rfl (fun _ _ => .inl (by simp)) harr⟩
      | goto l => exact ⟨_, a₁, w₁, hq, .pass (x := .inLoop c) rfl (fun _ _ => .inl (by simp)) harr⟩
      | ret => exact ⟨_, a₁, w₁, hq, .pass (x := .inLoop c) rfl (fun _ _ => .inl (by simp)) harr⟩
      | panic ch => exact ⟨_, a₁, w₁, hq, .pass (x := .inLoop c) rfl (fun _ _ => .inl (by simp)) harr⟩
      | outgrown => exact ⟨_, a₁, w₁, hq, .pass (x := .inLoop c) rfl (fun _ _ => .inl (by simp)) harr⟩
  obtain ⟨e, a', w', hq, harr⟩ := key _ x0 a w rfl (ha.sub hs) h0
  exact ⟨e, a', w', hq, .of_steps (.one (fenced_calm hb hr rfl) stepR_loop) harr⟩
/-- The round's end. -/
theorem nx_round {X : Type} {L : X → Env} {Φ : X → World → Prop} {μ : X → Nat} {x : X} (x' : X) (hs : Sub (L x') l) (hΦ : Φ x' w) (hμ : μ x' < μ x) :
    Nx P ro B n ds (.inv (fun a' w' => ∃ x', E n ds (L x') a' ∧ Φ x' w' ∧ μ x' < μ x) :: k) l w := fun a ha => ⟨x', ha.sub hs, hΦ, hμ⟩
/-- Ways meet behind 'c'. -/
theorem at_cut {c d : Code} {X : Type} (L : X → Env) (Φ : X → World → Prop)
    (first : At P ro B n ds (.inv (fun a' w' => ∃ x', E n ds (L x') a' ∧ Φ x' w') :: k) c l w)
    (rest : ∀ x w, Φ x w → At P ro B n ds k d (L x) w) : At P ro B n ds k (.seq c d) l w := by
  intro a ha
  refine wpIn_seq (wpIn_mono (first a ha) fun e a' w' h => ?_)
  cases e <;> first | exact h | (obtain ⟨x, hE, hΦ⟩ := h; exact rest x w' hΦ a' hE)
theorem nx_meet {X : Type} {L : X → Env} {Φ : X → World → Prop} (x' : X) (hs : Sub (L x') l) (hΦ : Φ x' w) :
    Nx P ro B n ds (.inv (fun a' w' => ∃ x', E n ds (L x') a' ∧ Φ x' w') :: k) l w := fun a ha => ⟨x', ha.sub hs, hΦ⟩
end
end Go.Kw
