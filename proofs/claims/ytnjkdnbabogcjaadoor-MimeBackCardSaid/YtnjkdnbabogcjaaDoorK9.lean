/- More rules: environments up to equations, calls that may panic, appending to nothing: my own text. -/
import Derived.Test.YtnjkdnbabogcjaaDoorK8
set_option linter.unusedVariables false
set_option linter.unusedSimpArgs false
namespace Go.Kw
open Go Go.RowKit

theorem proj_subE {l l1 l2 l' : Env} (h : proj (l1.map (·.1)) l = some l1) (e : l1 = l2) (e' : l' = l2) : Sub l' l := by
  subst e; subst e'; exact proj_sub _ h

/-- What is thrown. -/
abbrev thrown (T : TypeId) : List PanicEntry := [{ v := .iface T (.agg #[]), recovered := false }]
/-- Returns, or panics. -/
def Rp (P : Program) (f : FuncId) (args : Array Value) (w : World) (R : Value → World → Prop) (Q : List PanicEntry → World → Prop) : Prop :=
  Calls P f args w fun e w' => (∃ v, e = .returned v ∧ R v w') ∨ ∃ ch, e = .panicked ch ∧ Q ch w'
/-- Returns. -/
def Rt (P : Program) (f : FuncId) (args : Array Value) (w : World) (R : Value → World → Prop) : Prop :=
  Calls P f args w fun e w' => ∃ v, e = .returned v ∧ R v w'
theorem Rt.mono {P : Program} {f : FuncId} {args : Array Value} {w : World} {R R' : Value → World → Prop} (h : Rt P f args w R) (hr : ∀ v w', R v w' → R' v w') : Rt P f args w R' :=
  Calls.mono h fun e w' ⟨v, he, hv⟩ => ⟨v, he, hr v w' hv⟩
theorem Rp.mono {P : Program} {f : FuncId} {args : Array Value} {w : World} {R R' : Value → World → Prop} {Q Q' : List PanicEntry → World → Prop} (h : Rp P f args w R Q) (hr : ∀ v w', R v w' → R' v w') (hq : ∀ c w', Q c w' → Q' c w') : Rp P f args w R' Q' :=
  Calls.mono h fun e w' h => h.elim (fun ⟨v, he, hv⟩ => .inl ⟨v, he, hr v w' hv⟩) (fun ⟨c, he, hc⟩ => .inr ⟨c, he, hq c w' hc⟩)
theorem Rt.rp {P : Program} {f : FuncId} {args : Array Value} {w : World} {R : Value → World → Prop} {Q : List PanicEntry → World → Prop} (h : Rt P f args w R) : Rp P f args w R Q := Calls.mono h fun e w' h => .inl h
/-- One value and a world that has changed in nothing old. -/
abbrev Pu (P : Program) (f : FuncId) (args : Array Value) (w : World) (v : Value) : Prop := Rt P f args w fun u w' => u = v ∧ Chg [] w.heap.size w w'

section
variable {P : Program} {fn : Func} {R : Ending → World → Prop} {ro : Option Nat} {B : Post} {n : Nat} {ds : List Deferred} {k : List Kont} {l : Env} {w : World} {all : Array Oper} {o : Oper} {rest : List Oper}
theorem ops_callp {f : FuncId} {args : Array Value} {R' : Value → World → Prop} {Q : List PanicEntry → World → Prop} (hg : wantsO all l o.guard = some true) (hok : (okO l o && dOk n o.dst) = true) (hrun : (execOp (lk l) o).run P w = .ok (.enter f args) w)
    (hc : Rp P f args w R' Q) (hret : ∀ v w', R' v w' → Ops P ro B n ds k all rest (putD l o.dst v) w') (hpan : ∀ ch w' a, E n ds l a → Q ch w' → B (.panic ch) a w') : Ops P ro B n ds k all (o :: rest) l w :=
  ops_call hg hok hrun hc (fun v w' h => h.elim (fun ⟨u, e, h⟩ => by cases e; exact hret v w' h) (fun ⟨c, e, _⟩ => by cases e)) (fun ch w' a ha h => h.elim (fun ⟨u, e, _⟩ => by cases e) (fun ⟨c, e, h⟩ => by cases e; exact hpan ch w' a ha h)) (fun w' h => h.elim (fun ⟨u, e, _⟩ => by cases e) (fun ⟨c, e, _⟩ => by cases e))
end
end Go.Kw
