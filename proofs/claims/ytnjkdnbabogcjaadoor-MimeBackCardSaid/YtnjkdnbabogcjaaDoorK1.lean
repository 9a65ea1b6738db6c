/- Rules for the operations of a region: my own text. -/
import Derived.Test.YtnjkdnbabogcjaaDoorK0
set_option linter.unusedVariables false
set_option linter.unusedSimpArgs false
namespace Go.Kw
open Go Go.RowKit

def okO (l : Env) (o : Oper) : Bool :=
  o.op.operands.toList.all (cov l) && (match o.op with | .select .. => false | .defer _ => false | _ => true)
/-- What a guard's operation has left: none: not known; some none: no Bool. -/
def gval (all : Array Oper) (l : Env) (j : Nat) : Option (Option Bool) :=
  match all[j]? with
  | none => none
  | some o => match o.dst with
    | none => none
    | some t => match lkT l t with
      | some (.bool b) => some (some b)
      | some (.tuple _) => some none
      | _ => none
/-- Whether an operation is carried out: none: not known. -/
def wantsO (all : Array Oper) (l : Env) : Option (Nat × Bool) → Option Bool
  | none => some true
  | some (j, want) => match gval all l j with
    | none => none
    | some none => some false
    | some (some b) => some (b == want)

section
variable {P : Program} {fn : Func} {R : Ending → World → Prop} {ro : Option Nat} {B : Post} {n : Nat} {ds : List Deferred} {k : List Kont} {l : Env} {w : World} {all : Array Oper}

theorem exec_eq {a : Act} (ha : E n ds l a) {o : Oper} (h : okO l o = true) : o.semAt (Fw ro).round a.eval = execOp (lk l) o := by
  simp only [okO, Bool.and_eq_true, List.all_eq_true] at h
  have hd : ∀ c, o.op ≠ .defer c := fun c e => by have := h.2; rw [e] at this; simp at this
  rw [Oper.semAt_eq _ _ _ hd]
  refine execOp_congr o (fun cs b e => ?_) (fun x hx => ha.eval x (h.1 x (by simpa using hx)))
  have := h.2
  rw [e] at this
  simp at this
theorem about_any (f : FuncId) : (Fw ro).fn f := Fw_fn ro f
theorem yield_eq {a : Act} (ha : E n ds l a) {j : Nat} {b : Option Bool} (h : gval all l j = some b) : yielded all a.tmps j = b := by
  unfold gval at h
  unfold yielded
  split at h
  · simp at h
  · rename_i o ho
    split at h
    · simp at h
    · rename_i t ht
      split at h
      · rename_i b' hb
        have := ha.have_ t _ hb
        simp [ho, ht, this]
        simpa using h
      · rename_i x hb
        have := ha.have_ t _ hb
        simp [ho, ht, this]
        simpa using h
      · simp at h
theorem wants_eq {a : Act} (ha : E n ds l a) {o : Oper} {b : Bool} (h : wantsO all l o.guard = some b) : Region.wanted o (yielded all a.tmps) = b := by
  unfold wantsO at h
  unfold Region.wanted
  split at h
  · rename_i hg; rw [hg]; simpa using h
  · rename_i j want hg
    rw [hg]
    split at h
    · simp at h
    · rename_i hb
      simp only [yield_eq ha hb]
      simpa using h
    · rename_i b' hb
      simp only [yield_eq ha hb]
      simpa using h

theorem ops_nil (h : Nx P ro B n ds k l w) : Ops P ro B n ds k all [] l w := fun a ha => h a ha
variable {o : Oper} {rest : List Oper} {w' : World}
/-- What the operation's run comes to. -/
theorem ops_val {v : Value} (hg : wantsO all l o.guard = some true) (hok : (okO l o && dOk n o.dst) = true) (hrun : (execOp (lk l) o).run P w = .ok (.value v) w')
    (h : Ops P ro B n ds k all rest (putD l o.dst v) w') : Ops P ro B n ds k all (o :: rest) l w := by
  intro a ha
  simp only [Bool.and_eq_true] at hok
  refine wpListIn_step fun K hK => ?_
  rw [if_pos (wants_eq ha hg)]
  refine ⟨fun f _ => Fw_fn ro f, ?_⟩
  rw [exec_eq ha hok.1, hrun]
  exact hK _ _ (h _ (ha.putD _ _ hok.2))
theorem ops_skp (hg : wantsO all l o.guard = some true) (hok : (okO l o && dOk n o.dst) = true) (hrun : (execOp (lk l) o).run P w = .ok .skip w')
    (h : Ops P ro B n ds k all rest (putD l o.dst undef) w') : Ops P ro B n ds k all (o :: rest) l w := by
  intro a ha
  simp only [Bool.and_eq_true] at hok
  refine wpListIn_step fun K hK => ?_
  rw [if_pos (wants_eq ha hg)]
  refine ⟨fun f _ => Fw_fn ro f, ?_⟩
  rw [exec_eq ha hok.1, hrun]
  exact hK _ _ (h _ (ha.putD _ _ hok.2))
theorem ops_pass (hg : wantsO all l o.guard = some false) (hd : dOk n o.dst = true) (h : Ops P ro B n ds k all rest (putD l o.dst undef) w) : Ops P ro B n ds k all (o :: rest) l w := by
  intro a ha
  refine wpListIn_step fun K hK => ?_
  rw [if_neg (by rw [wants_eq ha hg]; simp)]
  exact ⟨fun f _ => Fw_fn ro f, hK _ _ (h _ (ha.putD _ _ hd))⟩
theorem calls_fw {f : FuncId} {args : Array Value} {w : World} {R' : Ending → World → Prop} (h : Calls P f args w R') : CallsIn (Fw ro) (0 - 1) P f args w R' := by
  cases ro with
  | none => exact callsIn_wide.2 h
  | some r =>
    have := (callsIn_wide (n := 0 - 1)).2 h
    exact ⟨trivial, fun cs hr => this.2 cs (room_wide _)⟩
/-- A call of a Go function by its contract. -/
theorem ops_call {f : FuncId} {args : Array Value} {R' : Ending → World → Prop} (hg : wantsO all l o.guard = some true) (hok : (okO l o && dOk n o.dst) = true) (hrun : (execOp (lk l) o).run P w = .ok (.enter f args) w)
    (hc : Calls P f args w R') (hret : ∀ v w', R' (.returned v) w' → Ops P ro B n ds k all rest (putD l o.dst v) w') (hpan : ∀ ch w' a, E n ds l a → R' (.panicked ch) w' → B (.panic ch) a w') (hout : ∀ w', ¬ R' .outgrown w') : Ops P ro B n ds k all (o :: rest) l w := by
  intro a ha
  simp only [Bool.and_eq_true] at hok
  refine wpListIn_step fun K hK => ?_
  rw [if_pos (wants_eq ha hg)]
  refine ⟨fun f _ => Fw_fn ro f, ?_⟩
  rw [exec_eq ha hok.1, hrun]
  refine ⟨fun h => by rw [Fw_depth] at h; simp at h, ?_⟩
  refine (calls_fw hc).mono fun e w'' he => ?_
  cases e with
  | returned v => exact hK _ _ (hret v w'' he _ (ha.putD _ _ hok.2))
  | panicked ch =>
    show post P ro B k (.panic ch) a w''
    rw [post_panic]
    exact hpan ch w'' a ha he
  | outgrown => exact absurd he (hout w'')
/-- A call of one that returns. -/
theorem ops_callr {f : FuncId} {args : Array Value} {R' : Value → World → Prop} (hg : wantsO all l o.guard = some true) (hok : (okO l o && dOk n o.dst) = true) (hrun : (execOp (lk l) o).run P w = .ok (.enter f args) w)
    (hc : Calls P f args w fun e w' => ∃ v, e = .returned v ∧ R' v w') (hret : ∀ v w', R' v w' → Ops P ro B n ds k all rest (putD l o.dst v) w') : Ops P ro B n ds k all (o :: rest) l w :=
  ops_call hg hok hrun hc (fun v w' ⟨u, e, h⟩ => by cases e; exact hret v w' h) (fun ch w' a _ ⟨u, e, h⟩ => by cases e) (fun w' ⟨u, e, h⟩ => by cases e)
/-- A panic. -/
theorem ops_panic {v : Value} (hg : wantsO all l o.guard = some true) (hok : okO l o = true) (hrun : (execOp (lk l) o).run P w = .halt (.panic v) w')
    (h : ∀ a, E n ds l a → B (.panic [{ v, recovered := false }]) a w') : Ops P ro B n ds k all (o :: rest) l w := by
  intro a ha
  refine wpListIn_step fun K hK => ?_
  rw [if_pos (wants_eq ha hg)]
  refine ⟨fun f _ => Fw_fn ro f, ?_⟩
  rw [exec_eq ha hok, hrun]
  show post P ro B k (.panic [{ v, recovered := false }]) a w'
  rw [post_panic]
  exact h a ha

/-! ### Several operations that ask nothing of the world, reckoned by the kernel -/
def vrun (P : Program) : Sem Next → Option Value
  | .pure (.value v) => some v
  | .program k => vrun P (k P)
  | .mark _ k => vrun P k
  | _ => none
theorem vrun_run {s : Sem Next} {v : Value} (h : vrun P s = some v) : s.run P w = .ok (.value v) w := by
  induction s with
  | pure x => cases x <;> simp [vrun] at h; subst h; rfl
  | program k ih => exact ih P h
  | mark m k ih => exact ih h
  | _ => simp [vrun] at h
def step1 (P : Program) (all : Array Oper) (n : Nat) (o : Oper) (l : Env) : Option Env :=
  match wantsO all l o.guard with
  | none => none
  | some false => bif dOk n o.dst then some (putD l o.dst undef) else none
  | some true => bif okO l o && dOk n o.dst then (match vrun P (execOp (lk l) o) with | some v => some (putD l o.dst v) | none => none) else none
def runs (P : Program) (all : Array Oper) (n : Nat) : List Oper → Env → Option Env
  | [], l => some l
  | o :: r, l => match step1 P all n o l with | some l' => runs P all n r l' | none => none
theorem ops_step1 {l' : Env} (h : step1 P all n o l = some l') (next : Ops P ro B n ds k all rest l' w) : Ops P ro B n ds k all (o :: rest) l w := by
  unfold step1 at h
  split at h
  · simp at h
  · rename_i hg
    cases hd : dOk n o.dst with
    | false => rw [hd] at h; simp at h
    | true => rw [hd] at h; simp at h; subst h; exact ops_pass hg hd next
  · rename_i hg
    cases hd : (okO l o && dOk n o.dst) with
    | false => rw [hd] at h; simp at h
    | true =>
      rw [hd] at h
      simp only [cond_true] at h
      split at h
      · rename_i v hv
        simp at h; subst h
        exact ops_val hg hd (vrun_run hv) next
      · simp at h
theorem ops_runs : ∀ (os : List Oper) {l l' : Env} (h : runs P all n os l = some l') (next : Ops P ro B n ds k all rest l' w), Ops P ro B n ds k all (os ++ rest) l w
  | [], l, l', h, next => by simp [runs] at h; subst h; exact next
  | o :: os, l, l', h, next => by
    unfold runs at h
    split at h
    · rename_i l1 h1
      exact ops_step1 h1 (ops_runs os h next)
    · simp at h
/-- What is kept of an environment. -/
def proj : List Nat → Env → Option Env
  | [], _ => some []
  | t :: ts, l => match lkT l t with
    | none => none
    | some v => match proj ts l with
      | none => none
      | some r => some ((t, v) :: r)
theorem proj_sub : ∀ (ts : List Nat) {l l' : Env}, proj ts l = some l' → Sub l' l
  | [], l, l', h => by simp [proj] at h; subst h; exact Sub.nil l
  | t :: ts, l, l', h => by
    unfold proj at h
    split at h
    · simp at h
    · rename_i v hv
      split at h
      · simp at h
      · rename_i r hr
        simp at h; subst h
        exact Sub.cons hv (proj_sub ts hr)
def runsP (P : Program) (all : Array Oper) (n : Nat) (os : List Oper) (l : Env) (ts : List Nat) : Option Env :=
  match runs P all n os l with | some l1 => proj ts l1 | none => none
theorem ops_runsP {os : List Oper} {l' : Env} (h : runsP P all n os l (l'.map (·.1)) = some l') (next : Ops P ro B n ds k all rest l' w) : Ops P ro B n ds k all (os ++ rest) l w := by
  unfold runsP at h
  split at h
  · rename_i l1 h1
    exact ops_runs os h1 (ops_sub _ (proj_sub _ h) next)
  · simp at h
/-- Less is kept. -/
theorem at_keep {c : Code} (l' : Env) (h : proj (l'.map (·.1)) l = some l') (next : At P ro B n ds k c l' w) : At P ro B n ds k c l w := at_sub l' (proj_sub _ h) next
theorem ops_keep (l' : Env) (h : proj (l'.map (·.1)) l = some l') (next : Ops P ro B n ds k all rest l' w) : Ops P ro B n ds k all rest l w := ops_sub l' (proj_sub _ h) next
theorem nx_keep (l' : Env) (h : proj (l'.map (·.1)) l = some l') (next : Nx P ro B n ds k l' w) : Nx P ro B n ds k l w := nx_sub l' (proj_sub _ h) next
theorem ops_run1 {o1 : Oper} {l' : Env} (h : runsP P all n [o1] l (l'.map (·.1)) = some l') (next : Ops P ro B n ds k all rest l' w) : Ops P ro B n ds k all (o1 :: rest) l w := ops_runsP h next
theorem ops_run2 {o1 o2 : Oper} {l' : Env} (h : runsP P all n [o1, o2] l (l'.map (·.1)) = some l') (next : Ops P ro B n ds k all rest l' w) : Ops P ro B n ds k all (o1 :: o2 :: rest) l w := ops_runsP h next
theorem ops_run3 {o1 o2 o3 : Oper} {l' : Env} (h : runsP P all n [o1, o2, o3] l (l'.map (·.1)) = some l') (next : Ops P ro B n ds k all rest l' w) : Ops P ro B n ds k all (o1 :: o2 :: o3 :: rest) l w := ops_runsP h next
theorem ops_run4 {o1 o2 o3 o4 : Oper} {l' : Env} (h : runsP P all n [o1, o2, o3, o4] l (l'.map (·.1)) = some l') (next : Ops P ro B n ds k all rest l' w) : Ops P ro B n ds k all (o1 :: o2 :: o3 :: o4 :: rest) l w := ops_runsP h next
theorem ops_run5 {o1 o2 o3 o4 o5 : Oper} {l' : Env} (h : runsP P all n [o1, o2, o3, o4, o5] l (l'.map (·.1)) = some l') (next : Ops P ro B n ds k all rest l' w) : Ops P ro B n ds k all (o1 :: o2 :: o3 :: o4 :: o5 :: rest) l w := ops_runsP h next
theorem ops_run6 {o1 o2 o3 o4 o5 o6 : Oper} {l' : Env} (h : runsP P all n [o1, o2, o3, o4, o5, o6] l (l'.map (·.1)) = some l') (next : Ops P ro B n ds k all rest l' w) : Ops P ro B n ds k all (o1 :: o2 :: o3 :: o4 :: o5 :: o6 :: rest) l w := ops_runsP h next
theorem ops_run7 {o1 o2 o3 o4 o5 o6 o7 : Oper} {l' : Env} (h : runsP P all n [o1, o2, o3, o4, o5, o6, o7] l (l'.map (·.1)) = some l') (next : Ops P ro B n ds k all rest l' w) : Ops P ro B n ds k all (o1 :: o2 :: o3 :: o4 :: o5 :: o6 :: o7 :: rest) l w := ops_runsP h next
theorem ops_run8 {o1 o2 o3 o4 o5 o6 o7 o8 : Oper} {l' : Env} (h : runsP P all n [o1, o2, o3, o4, o5, o6, o7, o8] l (l'.map (·.1)) = some l') (next : Ops P ro B n ds k all rest l' w) : Ops P ro B n ds k all (o1 :: o2 :: o3 :: o4 :: o5 :: o6 :: o7 :: o8 :: rest) l w := ops_runsP h next
theorem ops_run9 {o1 o2 o3 o4 o5 o6 o7 o8 o9 : Oper} {l' : Env} (h : runsP P all n [o1, o2, o3, o4, o5, o6, o7, o8, o9] l (l'.map (·.1)) = some l') (next : Ops P ro B n ds k all rest l' w) : Ops P ro B n ds k all (o1 :: o2 :: o3 :: o4 :: o5 :: o6 :: o7 :: o8 :: o9 :: rest) l w := ops_runsP h next
theorem ops_run10 {o1 o2 o3 o4 o5 o6 o7 o8 o9 o10 : Oper} {l' : Env} (h : runsP P all n [o1, o2, o3, o4, o5, o6, o7, o8, o9, o10] l (l'.map (·.1)) = some l') (next : Ops P ro B n ds k all rest l' w) : Ops P ro B n ds k all (o1 :: o2 :: o3 :: o4 :: o5 :: o6 :: o7 :: o8 :: o9 :: o10 :: rest) l w := ops_runsP h next
theorem ops_run11 {o1 o2 o3 o4 o5 o6 o7 o8 o9 o10 o11 : Oper} {l' : Env} (h : runsP P all n [o1, o2, o3, o4, o5, o6, o7, o8, o9, o10, o11] l (l'.map (·.1)) = some l') (next : Ops P ro B n ds k all rest l' w) : Ops P ro B n ds k all (o1 :: o2 :: o3 :: o4 :: o5 :: o6 :: o7 :: o8 :: o9 :: o10 :: o11 :: rest) l w := ops_runsP h next
theorem ops_run12 {o1 o2 o3 o4 o5 o6 o7 o8 o9 o10 o11 o12 : Oper} {l' : Env} (h : runsP P all n [o1, o2, o3, o4, o5, o6, o7, o8, o9, o10, o11, o12] l (l'.map (·.1)) = some l') (next : Ops P ro B n ds k all rest l' w) : Ops P ro B n ds k all (o1 :: o2 :: o3 :: o4 :: o5 :: o6 :: o7 :: o8 :: o9 :: o10 :: o11 :: o12 :: rest) l w := ops_runsP h next
theorem ops_run13 {o1 o2 o3 o4 o5 o6 o7 o8 o9 o10 o11 o12 o13 : Oper} {l' : Env} (h : runsP P all n [o1, o2, o3, o4, o5, o6, o7, o8, o9, o10, o11, o12, o13] l (l'.map (·.1)) = some l') (next : Ops P ro B n ds k all rest l' w) : Ops P ro B n ds k all (o1 :: o2 :: o3 :: o4 :: o5 :: o6 :: o7 :: o8 :: o9 :: o10 :: o11 :: o12 :: o13 :: rest) l w := ops_runsP h next
theorem ops_run14 {o1 o2 o3 o4 o5 o6 o7 o8 o9 o10 o11 o12 o13 o14 : Oper} {l' : Env} (h : runsP P all n [o1, o2, o3, o4, o5, o6, o7, o8, o9, o10, o11, o12, o13, o14] l (l'.map (·.1)) = some l') (next : Ops P ro B n ds k all rest l' w) : Ops P ro B n ds k all (o1 :: o2 :: o3 :: o4 :: o5 :: o6 :: o7 :: o8 :: o9 :: o10 :: o11 :: o12 :: o13 :: o14 :: rest) l w := ops_runsP h next
theorem ops_run15 {o1 o2 o3 o4 o5 o6 o7 o8 o9 o10 o11 o12 o13 o14 o15 : Oper} {l' : Env} (h : runsP P all n [o1, o2, o3, o4, o5, o6, o7, o8, o9, o10, o11, o12, o13, o14, o15] l (l'.map (·.1)) = some l') (next : Ops P ro B n ds k all rest l' w) : Ops P ro B n ds k all (o1 :: o2 :: o3 :: o4 :: o5 :: o6 :: o7 :: o8 :: o9 :: o10 :: o11 :: o12 :: o13 :: o14 :: o15 :: rest) l w := ops_runsP h next
theorem ops_run16 {o1 o2 o3 o4 o5 o6 o7 o8 o9 o10 o11 o12 o13 o14 o15 o16 : Oper} {l' : Env} (h : runsP P all n [o1, o2, o3, o4, o5, o6, o7, o8, o9, o10, o11, o12, o13, o14, o15, o16] l (l'.map (·.1)) = some l') (next : Ops P ro B n ds k all rest l' w) : Ops P ro B n ds k all (o1 :: o2 :: o3 :: o4 :: o5 :: o6 :: o7 :: o8 :: o9 :: o10 :: o11 :: o12 :: o13 :: o14 :: o15 :: o16 :: rest) l w := ops_runsP h next
theorem ops_run17 {o1 o2 o3 o4 o5 o6 o7 o8 o9 o10 o11 o12 o13 o14 o15 o16 o17 : Oper} {l' : Env} (h : runsP P all n [o1, o2, o3, o4, o5, o6, o7, o8, o9, o10, o11, o12, o13, o14, o15, o16, o17] l (l'.map (·.1)) = some l') (next : Ops P ro B n ds k all rest l' w) : Ops P ro B n ds k all (o1 :: o2 :: o3 :: o4 :: o5 :: o6 :: o7 :: o8 :: o9 :: o10 :: o11 :: o12 :: o13 :: o14 :: o15 :: o16 :: o17 :: rest) l w := ops_runsP h next
theorem ops_run18 {o1 o2 o3 o4 o5 o6 o7 o8 o9 o10 o11 o12 o13 o14 o15 o16 o17 o18 : Oper} {l' : Env} (h : runsP P all n [o1, o2, o3, o4, o5, o6, o7, o8, o9, o10, o11, o12, o13, o14, o15, o16, o17, o18] l (l'.map (·.1)) = some l') (next : Ops P ro B n ds k all rest l' w) : Ops P ro B n ds k all (o1 :: o2 :: o3 :: o4 :: o5 :: o6 :: o7 :: o8 :: o9 :: o10 :: o11 :: o12 :: o13 :: o14 :: o15 :: o16 :: o17 :: o18 :: rest) l w := ops_runsP h next
theorem ops_run19 {o1 o2 o3 o4 o5 o6 o7 o8 o9 o10 o11 o12 o13 o14 o15 o16 o17 o18 o19 : Oper} {l' : Env} (h : runsP P all n [o1, o2, o3, o4, o5, o6, o7, o8, o9, o10, o11, o12, o13, o14, o15, o16, o17, o18, o19] l (l'.map (·.1)) = some l') (next : Ops P ro B n ds k all rest l' w) : Ops P ro B n ds k all (o1 :: o2 :: o3 :: o4 :: o5 :: o6 :: o7 :: o8 :: o9 :: o10 :: o11 :: o12 :: o13 :: o14 :: o15 :: o16 :: o17 :: o18 :: o19 :: rest) l w := ops_runsP h next
theorem ops_run20 {o1 o2 o3 o4 o5 o6 o7 o8 o9 o10 o11 o12 o13 o14 o15 o16 o17 o18 o19 o20 : Oper} {l' : Env} (h : runsP P all n [o1, o2, o3, o4, o5, o6, o7, o8, o9, o10, o11, o12, o13, o14, o15, o16, o17, o18, o19, o20] l (l'.map (·.1)) = some l') (next : Ops P ro B n ds k all rest l' w) : Ops P ro B n ds k all (o1 :: o2 :: o3 :: o4 :: o5 :: o6 :: o7 :: o8 :: o9 :: o10 :: o11 :: o12 :: o13 :: o14 :: o15 :: o16 :: o17 :: o18 :: o19 :: o20 :: rest) l w := ops_runsP h next
theorem ops_run21 {o1 o2 o3 o4 o5 o6 o7 o8 o9 o10 o11 o12 o13 o14 o15 o16 o17 o18 o19 o20 o21 : Oper} {l' : Env} (h : runsP P all n [o1, o2, o3, o4, o5, o6, o7, o8, o9, o10, o11, o12, o13, o14, o15, o16, o17, o18, o19, o20, o21] l (l'.map (·.1)) = some l') (next : Ops P ro B n ds k all rest l' w) : Ops P ro B n ds k all (o1 :: o2 :: o3 :: o4 :: o5 :: o6 :: o7 :: o8 :: o9 :: o10 :: o11 :: o12 :: o13 :: o14 :: o15 :: o16 :: o17 :: o18 :: o19 :: o20 :: o21 :: rest) l w := ops_runsP h next
theorem ops_run22 {o1 o2 o3 o4 o5 o6 o7 o8 o9 o10 o11 o12 o13 o14 o15 o16 o17 o18 o19 o20 o21 o22 : Oper} {l' : Env} (h : runsP P all n [o1, o2, o3, o4, o5, o6, o7, o8, o9, o10, o11, o12, o13, o14, o15, o16, o17, o18, o19, o20, o21, o22] l (l'.map (·.1)) = some l') (next : Ops P ro B n ds k all rest l' w) : Ops P ro B n ds k all (o1 :: o2 :: o3 :: o4 :: o5 :: o6 :: o7 :: o8 :: o9 :: o10 :: o11 :: o12 :: o13 :: o14 :: o15 :: o16 :: o17 :: o18 :: o19 :: o20 :: o21 :: o22 :: rest) l w := ops_runsP h next
theorem ops_run23 {o1 o2 o3 o4 o5 o6 o7 o8 o9 o10 o11 o12 o13 o14 o15 o16 o17 o18 o19 o20 o21 o22 o23 : Oper} {l' : Env} (h : runsP P all n [o1, o2, o3, o4, o5, o6, o7, o8, o9, o10, o11, o12, o13, o14, o15, o16, o17, o18, o19, o20, o21, o22, o23] l (l'.map (·.1)) = some l') (next : Ops P ro B n ds k all rest l' w) : Ops P ro B n ds k all (o1 :: o2 :: o3 :: o4 :: o5 :: o6 :: o7 :: o8 :: o9 :: o10 :: o11 :: o12 :: o13 :: o14 :: o15 :: o16 :: o17 :: o18 :: o19 :: o20 :: o21 :: o22 :: o23 :: rest) l w := ops_runsP h next
theorem ops_run24 {o1 o2 o3 o4 o5 o6 o7 o8 o9 o10 o11 o12 o13 o14 o15 o16 o17 o18 o19 o20 o21 o22 o23 o24 : Oper} {l' : Env} (h : runsP P all n [o1, o2, o3, o4, o5, o6, o7, o8, o9, o10, o11, o12, o13, o14, o15, o16, o17, o18, o19, o20, o21, o22, o23, o24] l (l'.map (·.1)) = some l') (next : Ops P ro B n ds k all rest l' w) : Ops P ro B n ds k all (o1 :: o2 :: o3 :: o4 :: o5 :: o6 :: o7 :: o8 :: o9 :: o10 :: o11 :: o12 :: o13 :: o14 :: o15 :: o16 :: o17 :: o18 :: o19 :: o20 :: o21 :: o22 :: o23 :: o24 :: rest) l w := ops_runsP h next
end
end Go.Kw
