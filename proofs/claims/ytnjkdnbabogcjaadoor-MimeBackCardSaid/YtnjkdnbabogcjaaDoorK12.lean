/- Functions that defer a call which may recover: my own text. -/
import Derived.Test.YtnjkdnbabogcjaaDoorK11
import Derived.RecoverIn
set_option linter.unusedVariables false
set_option linter.unusedSimpArgs false
namespace Go.Kw
open Go Go.RowKit

/-- What a function's body must come to, deferred calls and all. -/
abbrev FBM (P : Program) (fn : Func) (R : Ending → World → Prop) : Post := bodyPostM (Fw none) 0 P fn R
section
variable {P : Program} {fn : Func} {R : Ending → World → Prop} {ro : Option Nat} {B : Post} {n : Nat} {ds : List Deferred} {k : List Kont} {l : Env} {w : World} {all : Array Oper} {rest : List Oper}
variable {d : Option Tmp} {ty : TypeId} {p : String} {af : Array Edge} {g : Option (Nat × Bool)}
theorem enterM {f : FuncId} {c : Code} {args : List Value} (hf : P.funcs[f]? = some fn) (hb : fn.body = some c) (hn : fn.ntmps = n) (ha : args.length ≤ n)
    (h : At P none (FBM P fn R) n [] [] c (envOf 0 args) w) : Calls P f args.toArray w R := by
  refine (callsIn_wide (n := 0)).1 (callsIn_of_wp_marks hf hb trivial (h _ ⟨?_, rfl, fun t v hv => ?_⟩))
  · simp [hn]; omega
  · obtain ⟨_, h2⟩ := lkT_envOf _ _ _ _ hv
    have hlt : t < args.length := by have := (List.getElem?_eq_some_iff.1 h2).1; omega
    simp [Array.getElem?_append, hlt]
    simpa [List.getElem?_eq_getElem hlt] using h2
/-- A deferred call of a function value without arguments. -/
theorem ops_defer {x : Operand} {f : FuncId} {cap : List Value} (hg : wantsO all l g = some true) (hx : (cov l x, lk l x) = (true, .func (.func f) #[] cap.toArray)) (hd : dOk n d = true) (hro : ro = none)
    (next : Ops P ro B n ({ target := .fn (.func f) cap.toArray, args := #[] } :: ds) k all rest (putD l d undef) w) : Ops P ro B n ds k all (⟨d, .defer { callee := .value x, args := #[], argTypes := #[] }, ty, p, af, g⟩ :: rest) l w := by
  subst hro
  intro a ha
  simp only [Prod.mk.injEq] at hx
  refine wpListIn_step fun K hK => ?_
  rw [if_pos (wants_eq ha hg)]
  refine ⟨fun f _ => Fw_fn none f, ?_⟩
  have he := (ha.eval x hx.1).trans hx.2
  have hr : (Oper.semAt (Fw none).round a.eval ⟨d, .defer { callee := .value x, args := #[], argTypes := #[] }, ty, p, af, g⟩).run P w = .ok (.defer { target := .fn (.func f) cap.toArray, args := #[] }) w := by
    rw [Fw_round, Oper.semAt_none]
    simp only [execOp, resolve]
    rw [he]
    simp [Deferred.ofValue]
  rw [hr]
  refine hK _ _ (next _ ?_)
  have h1 : E n ({ target := .fn (.func f) cap.toArray, args := #[] } :: ds) l { a with defers := { target := .fn (.func f) cap.toArray, args := #[] } :: a.defers } := ⟨ha.size, by simp [ha.defers], ha.have_⟩
  exact h1.putD d undef hd
/-- Leaving with one deferred call. -/
theorem leave1 {f : FuncId} {cap : List Value} {a : Act} {u : FrameMode} (ha : E n [{ target := .fn (.func f) cap.toArray, args := #[] }] l a) (hu : u ≠ .run)
    (eg : (callFunc f cap.toArray).run P w = .ok (.enter f cap.toArray) w)
    {rs : List ResultVar} (hr : fn.results = rs.toArray)
    (h : CallsDIn (Fw none) (0 - 1) P f cap.toArray u w fun e u' w' => ∃ v, e = .returned v ∧ settle u' = .returning ∧ ∃ vs, ResV P l w' rs vs ∧ R (.returned (shut vs)) w') :
    LeavesInM (Fw none) 0 P fn a.tmps R a.defers u w := by
  rw [ha.defers]
  refine ⟨hu, .inr ⟨fun h => by rw [Fw_depth] at h; simp at h, .func f, cap.toArray, f, cap.toArray, rfl, ?_, fun f' _ => Fw_fn none f', ?_⟩⟩
  · have : (#[] : Array Value) ++ cap.toArray = cap.toArray := by simp
    simp only [invoke, this, go_sem]
    simpa using eg
  · refine CallsDIn.mono h ?_
    rintro e u' w' ⟨v, rfl, hs, vs, hv, hR⟩
    have ha0 : E n [{ target := .fn (.func f) cap.toArray, args := #[] }] l a := ha
    show LeavesInM _ _ _ _ _ _ [] (settle u') w'
    rw [hs]
    exact ⟨_, results_V ha0 hr hv, hR⟩
theorem at_retD {f : FuncId} {cap : List Value} (eg : (callFunc f cap.toArray).run P w = .ok (.enter f cap.toArray) w) {rs : List ResultVar} (hr : fn.results = rs.toArray)
    (h : CallsDIn (Fw none) (0 - 1) P f cap.toArray .returning w fun e u' w' => ∃ v, e = .returned v ∧ settle u' = .returning ∧ ∃ vs, ResV P l w' rs vs ∧ R (.returned (shut vs)) w') :
    At P none (FBM P fn R) n [{ target := .fn (.func f) cap.toArray, args := #[] }] k .ret l w := by
  intro a ha
  refine wpIn_ret ?_
  rw [post_ret]
  exact leave1 ha (by simp) eg hr h
theorem out_panicD {f : FuncId} {cap : List Value} {ch : List PanicEntry} {a : Act} (ha : E n [{ target := .fn (.func f) cap.toArray, args := #[] }] l a) (eg : (callFunc f cap.toArray).run P w = .ok (.enter f cap.toArray) w) {rs : List ResultVar} (hr : fn.results = rs.toArray)
    (h : CallsDIn (Fw none) (0 - 1) P f cap.toArray (.panicking ch) w fun e u' w' => ∃ v, e = .returned v ∧ settle u' = .returning ∧ ∃ vs, ResV P l w' rs vs ∧ R (.returned (shut vs)) w') : FBM P fn R (.panic ch) a w :=
  leave1 ha (by simp) eg hr h

/-- A call of a function value without arguments. -/
theorem run_callv {x : Operand} {f : FuncId} {cap : List Value} (hx : lk l x = .func (.func f) #[] cap.toArray) (eg : ∀ args w, (callFunc f args).run P w = .ok (.enter f args) w) :
    (execOp (lk l) ⟨d, .call { callee := .value x, args := #[], argTypes := #[] }, ty, p, af, g⟩).run P w = .ok (.enter f cap.toArray) w := by
  simp [execOp, resolve, invoke, hx, eg, Deferred.ofValue, go_sem]

/-- The body of a deferred function, behind what recover handed on. -/
def BS (P : Program) (fn : Func) (c0 : Frame) (cs cs' : List Frame) (R : Ending → FrameMode → World → Prop) : Post := fun e a w => bodyPostS P fn c0 cs R e a cs' w
theorem enterS {f : FuncId} {id : Nat} {c : Code} {args : List Value} {u u' : FrameMode} {rv : Value} {R : Ending → FrameMode → World → Prop} {t4 t1 : Tmp} {ty1 ty2 : TypeId} {p1 p2 : String} {af1 af2 : Array Edge} (hf : P.funcs[f]? = some fn)
    (hb : fn.body = some (.seq (.region id #[⟨some t4, .call { callee := .builtin .recover, args := #[], argTypes := #[] }, ty1, p1, af1, none⟩, ⟨some t1, .assign (.tmp t4), ty2, p2, af2, none⟩] false) c)) (hn : fn.ntmps = n) (ha : args.length ≤ n) (ht4 : t4 < n) (ht1 : t1 < n)
    (hrec : ∀ (c0 : Frame) (cs : List Frame), c0.mode = u → (recoverD (c0 :: cs) = some (rv, { c0 with mode := u' } :: cs)) ∨ (recoverD (c0 :: cs) = none ∧ rv = .nilIface ∧ u' = u))
    (h : ∀ c0 cs, At P none (BS P fn c0 cs ({ c0 with mode := u' } :: cs) R) n [] [] c ((t1, rv) :: (t4, rv) :: envOf 0 args) w) : CallsDIn (Fw none) (0 - 1) P f args.toArray u w R := by
  refine callsDIn_of_wpSIn hf hb trivial fun c0 cs hu => ?_
  refine wpSIn_seq (wpSIn_region ?_)
  have hE : E n [] (envOf 0 args) { tmps := args.toArray ++ Array.replicate (fn.ntmps - args.toArray.size) undef, defers := [] } := by
    refine ⟨by simp [hn]; omega, rfl, fun t v hv => ?_⟩
    obtain ⟨_, h2⟩ := lkT_envOf _ _ _ _ hv
    have hlt : t < args.length := by have := (List.getElem?_eq_some_iff.1 h2).1; omega
    simp [Array.getElem?_append, hlt]
    simpa [List.getElem?_eq_getElem hlt] using h2
  generalize ({ tmps := args.toArray ++ Array.replicate (fn.ntmps - args.toArray.size) undef, defers := [] } : Act) = a0 at *
  have hE1 := hE.put t4 rv ht4
  have hE2 := hE1.put t1 rv ht1
  have hev : (a0.put (some t4) rv).eval (.tmp t4) = rv := by
    have := hE1.eval (.tmp t4) (by simp [cov, lkT])
    rw [this]; simp [lk, lkT]
  have fin : wpOpsSIn (Fw none) (0 - 1) P #[⟨some t4, .call { callee := .builtin .recover, args := #[], argTypes := #[] }, ty1, p1, af1, none⟩, ⟨some t1, .assign (.tmp t4), ty2, p2, af2, none⟩] (Exit.thenS (c.wpSIn (Fw none) (0 - 1) P (bodyPostS P fn c0 cs R)) (bodyPostS P fn c0 cs R)) [1] (a0.put (some t4) rv) ({ c0 with mode := u' } :: cs) w := by
    simp only [wpOpsSIn, List.getElem?_toArray, List.getElem?_cons_succ, List.getElem?_cons_zero]
    refine ⟨fun f _ => Fw_fn none f, ?_⟩
    have hx : (execOp (a0.put (some t4) rv).eval ⟨some t1, .assign (.tmp t4), ty2, p2, af2, none⟩).run P w = .ok (.value rv) w := by
      simp only [execOp]; rw [hev]; rfl
    simp only [Region.wanted, if_true, hx]
    show Exit.thenS _ _ .normal _ _ _
    refine wpSIn_of_wpIn rfl ?_
    exact h c0 cs _ hE2
  have h1 : (execOp a0.eval ⟨some t4, .call { callee := .builtin .recover, args := #[], argTypes := #[] }, ty1, p1, af1, none⟩).run P w = .ok .recover w := by
    simp [execOp, resolve, invoke, builtin, go_sem]
  show wpOpsSIn _ _ _ _ _ [0, 1] _ _ _
  unfold wpOpsSIn
  simp only [List.getElem?_toArray, List.getElem?_cons_zero]
  refine ⟨fun f _ => Fw_fn none f, ?_⟩
  simp only [Region.wanted, if_true, h1]
  rcases hrec c0 cs hu with hr | ⟨hr, h1, h2⟩
  · rw [hr]; exact fin
  · rw [hr]; subst h1; subst h2
    have : ({ c0 with mode := u' } : Frame) = c0 := by rw [← hu]
    rw [this] at fin
    exact fin
/-- The end of such a body. -/
theorem nx_endS {c0 : Frame} {cs : List Frame} {u' : FrameMode} {R : Ending → FrameMode → World → Prop} (hr : fn.results = #[]) (hR : R (.returned (.tuple #[])) u' w) : Nx P none (BS P fn c0 cs ({ c0 with mode := u' } :: cs) R) n [] [] l w := by
  intro a ha
  refine ⟨ha.defers, u', rfl, .tuple #[], ?_, hR⟩
  simp [results, hr]
end
end Go.Kw
