/- Ranges over functions: a contract of an iterator, and the rule of the statement: my own text. -/
import Derived.Test.YtnjkdnbabogcjaaDoorK6
import Derived.RangeFuncRecord
import Derived.RangeFuncSeq
set_option linter.unusedVariables false
set_option linter.unusedSimpArgs false
namespace Go.Kw
open Go Go.RowKit

/-- What a round leaves of what the iterator has: its own blocks, and all below Bd. -/
structure Kp (own : List Nat) (Bd : Nat) (W W' : World) : Prop where
  size : W.heap.size ≤ W'.heap.size
  own_ : ∀ b, b ∈ own → W'.heap[b]? = W.heap[b]?
  low : ∀ b, b < Bd → W'.heap[b]? = W.heap[b]?
theorem Kp.of_chg {own r : List Nat} {Bd B : Nat} {W W' : World} (h : Chg r B W W') (h1 : ∀ b, b ∈ own → b < B ∧ b ∉ r) (h2 : ∀ b, b < Bd → b < B ∧ b ∉ r) : Kp own Bd W W' :=
  ⟨h.size, fun b hb => h.block b (h1 b hb).1 (h1 b hb).2, fun b hb => h.block b (h2 b hb).1 (h2 b hb).2⟩
theorem Kp.trans {own : List Nat} {Bd : Nat} {a b c : World} (h : Kp own Bd a b) (k : Kp own Bd b c) : Kp own Bd a c :=
  ⟨Nat.le_trans h.size k.size, fun x hx => (k.own_ x hx).trans (h.own_ x hx), fun x hx => (k.low x hx).trans (h.low x hx)⟩
theorem Kp.blk {own : List Nat} {Bd b : Nat} {W W' : World} {cs : List Value} {T : TypeId} (h : Kp own Bd W W') (hb : Blk W b cs T) (hm : b ∈ own) : Blk W' b cs T := (h.own_ b hm).trans hb
theorem Kp.sl {own : List Nat} {Bd lo hi : Nat} {W W' : World} {v : Value} {sz n : Nat} {cs : List Value} (h : Kp own Bd W W') (hs : Sl W lo hi v sz n cs) (hh : hi ≤ Bd) : Sl W' lo hi v sz n cs := by
  obtain ⟨h1, A, cap, hv, h2, h3, h4, h5, h6, h7⟩ := hs
  refine ⟨h1, A, cap, hv, h2, h3, Nat.le_trans h4 h.size, h5, h6, fun j x hj => ?_⟩
  obtain ⟨a, ha, hc⟩ := h7 j x hj
  have hlt : 0 < cs.length := by have := (List.getElem?_eq_some_iff.1 hj).1; omega
  obtain ⟨b1, b2⟩ := h6 a ha hlt
  have hblk : (a.add j).block = a.block := by unfold Addr.add; split <;> rfl
  refine ⟨a, ha, ?_⟩
  rw [World.cell?_of_block (w := W) (by rw [hblk]; exact h.low _ (by omega))]
  exact hc

/-- A block's object, whatever it is. -/
def Ob (w : World) (b : Nat) (o : Obj) : Prop := w.heap[b]? = some o
theorem Ob.lt {w : World} {b : Nat} {o : Obj} (h : Ob w b o) : b < w.heap.size := (Array.getElem?_eq_some_iff.1 h).1
theorem Ob.keep0 {w w' : World} {b : Nat} {o : Obj} {B : Nat} (h : Ob w b o) (c : Chg [] B w w') (hB : b < B) : Ob w' b o := (c.block b hB (by simp)).trans h
theorem Ob.keep1 {w w' : World} {b x : Nat} {o : Obj} {B : Nat} (h : Ob w b o) (c : Chg [x] B w w') (hB : b < B) (hx : b ≠ x) : Ob w' b o := (c.block b hB (by simpa using hx)).trans h
theorem chg_putObj (w : World) (r : Nat) (o : Obj) : Chg [r] w.heap.size w (w.putObj r o) :=
  ⟨rfl, rfl, rfl, by simp, Nat.le_refl _, fun b _ hb => World.putObj_heap_other (by simpa using hb)⟩

abbrev yv (L : Nat) : Value := .func (.yield L) #[] #[]
/-- An iterator's contract: the function gf with what it has captured yields 'all', each as 'enc', as long as it is let; it may write its own blocks; 'D' is what it leans on. -/
def ItSpec (P : Program) (gf : FuncId) (cap : List Value) {α : Type} (enc : α → Value) (all : List α) (own : List Nat) (Bd : Nat) (D : World → Prop) : Prop :=
  ∀ (L : Nat) (J Jx : List α → World → Prop) (w : World),
    (∀ pre W W' x, x ∈ own → J pre W → Chg [x] W.heap.size W W' → J pre W') →
    (∀ pre W W', J pre W → Chg [] W.heap.size W W' → J pre W') →
    (∀ pre x W, pre ++ [x] <+: all → J pre W → YieldAt Fence.wide 0 P L #[enc x] W fun e W' =>
      (e = .returned (.bool true) ∧ J (pre ++ [x]) W' ∧ Kp own Bd W W') ∨ (e = .returned (.bool false) ∧ Jx (pre ++ [x]) W')) →
    J [] w → D w → Calls P gf ((yv L :: cap).toArray) w fun e w' => ∃ v, e = .returned v ∧ (J all w' ∨ ∃ pre, pre <+: all ∧ Jx pre w')

section
variable {P : Program} {fn : Func} {R : Ending → World → Prop} {ro : Option Nat} {B_ : Post} {n : Nat} {ds : List Deferred} {k : List Kont} {l : Env} {w : World} {all : Array Oper}
variable {rest : List Oper} {o : Oper}

theorem yieldAt_fw {L : Nat} {args : Array Value} {R' : Ending → World → Prop} (h : YieldAt Fence.wide 0 P L args w R') : ∃ f tmps assign body, (Instr.yield L args).run P w = .ok (.round L f tmps assign body) w ∧ RoundIn (Fw ro) (0 - 1) P L f tmps assign body w R' := by
  obtain ⟨f, tmps, assign, body, hy, h1, h2⟩ := h
  refine ⟨f, tmps, assign, body, hy, Fw_fn ro f, fun c cs hr => ?_⟩
  have h3 := h2 c cs (room_wide _)
  cases ro with
  | none => exact h3
  | some r => exact h3
/-- A call of yield. -/
theorem ops_yield {L : Nat} {args : Array Value} {R' : Ending → World → Prop} (hg : wantsO all l o.guard = some true) (hok : (okO l o && dOk n o.dst) = true) (hrun : (execOp (lk l) o).run P w = (Instr.yield L args).run P w)
    (hc : YieldAt Fence.wide 0 P L args w R') (hret : ∀ v w', R' (.returned v) w' → Ops P ro B_ n ds k all rest (putD l o.dst v) w') (hpan : ∀ ch w' a, E n ds l a → R' (.panicked ch) w' → B_ (.panic ch) a w') (hout : ∀ w', ¬ R' .outgrown w') : Ops P ro B_ n ds k all (o :: rest) l w := by
  intro a ha
  simp only [Bool.and_eq_true] at hok
  refine wpListIn_step fun K hK => ?_
  rw [if_pos (wants_eq ha hg)]
  refine ⟨fun f _ => Fw_fn ro f, ?_⟩
  obtain ⟨f, tmps, assign, body, hy, hr⟩ := yieldAt_fw (ro := ro) hc
  rw [exec_eq ha hok.1, hrun, hy]
  refine ⟨fun h => by rw [Fw_depth] at h; simp at h, ?_⟩
  refine hr.mono fun e w'' he => ?_
  cases e with
  | returned v => exact hK _ _ (hret v w'' he _ (ha.putD _ _ hok.2))
  | panicked ch =>
    show post P ro B_ k (.panic ch) a w''
    rw [post_panic]
    exact hpan ch w'' a ha he
  | outgrown => exact absurd he (hout w'')

/-- How a round may be left. -/
def RB {α : Type} (L r : Nat) (rec : Loop) (own : List Nat) (Bd : Nat) (W : World) (I : List α → World → Prop) (Ix : Code → List α → World → Prop) (ys : List α) : Post
  | .normal, _, W' => Ob W' L (.loop { rec with state := .busy }) ∧ Ob W' r (.deferred (some [])) ∧ Kp own Bd W W' ∧ I ys W'
  | .ret, _, W' => Ob W' L (.loop { rec with state := .busy }) ∧ Ob W' r (.deferred (some [])) ∧ Ix .ret ys W'
  | .exit id, _, W' => Ob W' L (.loop { rec with state := .busy }) ∧ Ob W' r (.deferred (some [])) ∧ Ix (.exit id) ys W'
  | _, _, _ => False
/-- Behind the assignment to the loop's variable. -/
def AB (P : Program) (L : Nat) (B : Post) (body : Code) (a : Act) (W : World) : Prop :=
  ∃ W2, (Instr.beginRound L).run P W = .ok () W2 ∧ body.wpIn (Fw (some L)) 0 P B a W2
theorem nx_begin {L : Nat} {B B0 : Post} {body : Code} {rec : Loop} (hL : Ob w L (.loop rec)) (hs : rec.state = .ready)
    (h : ∀ w', Ob w' L (.loop { rec with state := .busy }) → Chg [L] w.heap.size w w' → w'.heap.size = w.heap.size → At P (some L) B n ds [] body l w') : Nx P (some L) B0 n ds [.inv (AB P L B body)] l w :=
  fun a ha => ⟨_, run_beginRound hL hs, h _ (World.putObj_heap_same hL.lt) (chg_putObj _ _ _) (by simp) a ha⟩
/-- The end of a round. -/
theorem nx_rend {B : Post} (h : ∀ a, B .normal a w) : Nx P ro B n ds [] l w := fun a _ => h a
theorem at_rret {B : Post} (h : ∀ a, B .ret a w) : At P ro B n ds k .ret l w := fun a _ => wpIn_ret (by rw [post_ret]; exact h a)
theorem ex_rend {B : Post} {id : Nat} (h : ∀ a, B (.exit id) a w) : Ex P ro B n ds [] id l w := fun a _ => h a

/-- The mark of a loop's deferred calls. -/
abbrev mk_ (r : Nat) : Deferred := { target := .collected r, args := #[] }
theorem at_range {α : Type} {g : Operand} {pt : Tmp} {assign body : Code} {gf : FuncId} {cap : List Value} {enc : α → Value} {al : List α} {own : List Nat} {Bd : Nat} {D : World → Prop} {B : Post}
    (hg : (cov l g, lk l g) = (true, .func (.func gf) #[] cap.toArray)) (hpt : dOk n (some pt) = true) (eg : ∀ args w, (callFunc gf args).run P w = .ok (.enter gf args) w) (hit : ItSpec P gf cap enc al own Bd D)
    (hown : ∀ x, x ∈ own → x < w.heap.size) (hD : ∀ W1, Chg [] w.heap.size w W1 → D W1) (hBd : Bd ≤ w.heap.size)
    (I : List α → World → Prop) (Ix : Code → List α → World → Prop)
    (h0 : ∀ W1, Chg [] w.heap.size w W1 → W1.heap.size = w.heap.size + 2 → I [] W1)
    (hI1 : ∀ pre W W' x, (x ∈ own ∨ x = w.heap.size + 1) → I pre W → Chg [x] W.heap.size W W' → I pre W') (hI0 : ∀ pre W W', I pre W → Chg [] W.heap.size W W' → I pre W')
    (hX1 : ∀ c pre W W', Ix c pre W → Chg [w.heap.size + 1] W.heap.size W W' → Ix c pre W')
    (hround : ∀ rec pre x W, rec.state = .ready → pre ++ [x] <+: al → I pre W → Ob W (w.heap.size + 1) (.loop rec) → Ob W w.heap.size (.deferred (some [])) →
      At P (some (w.heap.size + 1)) (fun _ _ _ => False) n [] [.inv (AB P (w.heap.size + 1) (RB (w.heap.size + 1) w.heap.size rec own Bd W I Ix (pre ++ [x])) body)] assign ((pt, enc x) :: l) W)
    (hdone : ∀ W, I al W → Ob W w.heap.size (.deferred (some [])) → Nx P none B n (mk_ w.heap.size :: ds) k l W)
    (hstop : ∀ c pre W, pre <+: al → Ix c pre W → Ob W w.heap.size (.deferred (some [])) → At P none B n (mk_ w.heap.size :: ds) k c l W) :
    At P none B n ds k (.rangeFunc g #[pt] assign body) l w := by
  intro a ha
  simp only [Prod.mk.injEq] at hg
  have hge := (ha.eval g hg.1).trans hg.2
  have haE : E n (mk_ w.heap.size :: ds) l { a with defers := [mk_ w.heap.size] ++ a.defers } := ⟨ha.size, by simp [ha.defers], ha.have_⟩
  refine wpIn_rangeFunc fun fn' _ => ?_
  obtain ⟨rec, hrec⟩ : ∃ rec : LoopState → Option Code → Loop, rec = fun st pe => { state := st, pending := pe, fn := fn', tmps := a.tmps, params := #[pt], assign, body, defers := w.heap.size } := ⟨_, rfl⟩
  obtain ⟨W1, hW1⟩ : ∃ W1, (w.alloc (.deferred (some []))).alloc (.loop (rec .ready none)) = W1 := ⟨_, rfl⟩
  have hL1 : Ob W1 (w.heap.size + 1) (.loop (rec .ready none)) := by
    rw [← hW1]; have := World.alloc_heap_new (w.alloc (.deferred (some []))) (.loop (rec .ready none)); rwa [World.size_alloc] at this
  have hK1 : Ob W1 w.heap.size (.deferred (some [])) := by
    rw [← hW1]; exact (Below.heap_alloc _ _ _ (by simp)).trans (World.alloc_heap_new w _)
  have hC1 : Chg [] w.heap.size w W1 := by rw [← hW1]; exact (Chg.alloc w _).step0 (Chg.alloc _ _) (by simp)
  have hS1 : W1.heap.size = w.heap.size + 2 := by rw [← hW1]; simp
  refine ⟨w.heap.size + 1, [mk_ w.heap.size], W1, { target := .fn (.func gf) cap.toArray, args := #[yv (w.heap.size + 1)] }, W1, gf, #[yv (w.heap.size + 1)] ++ cap.toArray, W1, ?_, ?_, fun f' _ => Fw_fn none f', ?_, fun h => by rw [Fw_depth] at h; simp at h, ?_⟩
  · rw [← hW1, hrec]; exact run_enterLoop_outer _ _ _ _ _
  · simp only [resolve, hge]
    simp [go_sem]
  · simp [invoke, go_sem, eg]
  · refine calls_fw (ro := none) ?_
    have harr : (#[yv (w.heap.size + 1)] ++ cap.toArray : Array Value) = (yv (w.heap.size + 1) :: cap).toArray := by simp
    rw [harr]
    refine (hit (w.heap.size + 1)
      (fun pre W => I pre W ∧ Ob W (w.heap.size + 1) (.loop (rec .ready none)) ∧ Ob W w.heap.size (.deferred (some [])))
      (fun pre W => ∃ c, Ix c pre W ∧ Ob W (w.heap.size + 1) (.loop (rec .done (some c))) ∧ Ob W w.heap.size (.deferred (some [])))
      W1 (fun pre W W' x hx hs hc => ?_) (fun pre W W' hs hc => ?_) ?_ ⟨h0 W1 hC1 hS1, hL1, hK1⟩ (hD W1 hC1)).mono ?_
    · have := hown x hx
      exact ⟨hI1 pre W W' x (.inl hx) hs.1 hc, hs.2.1.keep1 hc hs.2.1.lt (by omega), hs.2.2.keep1 hc hs.2.2.lt (by omega)⟩
    · exact ⟨hI0 pre W W' hs.1 hc, hs.2.1.keep0 hc hs.2.1.lt, hs.2.2.keep0 hc hs.2.2.lt⟩
    · -- one round
      rintro pre x W hpre ⟨hi, hl, hk⟩
      have hy := run_yield (P := P) (args := #[enc x]) hl (by rw [hrec]; rfl)
      have hyt : (((rec .ready none).params.zip #[enc x]).foldl (fun tmps (t, a) => tmps.setIfInBounds t a) (rec .ready none).tmps) = a.tmps.setIfInBounds pt (enc x) := by rw [hrec]; simp
      rw [hyt] at hy
      have hyf : (rec .ready none).fn = fn' ∧ (rec .ready none).assign = assign ∧ (rec .ready none).body = body := by rw [hrec]; exact ⟨rfl, rfl, rfl⟩
      rw [hyf.1, hyf.2.1, hyf.2.2] at hy
      refine ⟨fn', _, assign, body, hy, ?_⟩
      have hE : E n [] ((pt, enc x) :: l) { tmps := a.tmps.setIfInBounds pt (enc x), defers := [] } := by
        have h1 : E n [] l { tmps := a.tmps, defers := [] } := ⟨ha.size, rfl, ha.have_⟩
        exact h1.put pt (enc x) (by simpa [dOk, Nat.blt_eq] using hpt)
      have hwalk := hround (rec .ready none) pre x W (by rw [hrec]) hpre hi hl hk _ hE
      refine roundIn_of_wpIn (F := Fence.wide) trivial (wpIn_mono hwalk ?_)
      have hbusy : ({ rec .ready none with state := .busy } : Loop) = rec .busy none := by rw [hrec]
      have fin : ∀ (jump : Option Code) (W3 : World), Ob W3 (w.heap.size + 1) (.loop { rec .ready none with state := .busy }) → Ob W3 w.heap.size (.deferred (some [])) →
          ∃ W4, (Instr.endRound (w.heap.size + 1) jump).run P W3 = .ok (.bool jump.isNone) W4 ∧ Chg [w.heap.size + 1] W3.heap.size W3 W4 ∧
          Ob W4 (w.heap.size + 1) (.loop (rec (if jump.isNone then .ready else .done) jump)) ∧ Ob W4 w.heap.size (.deferred (some [])) := fun jump W3 hl3 hk3 => by
        have hr := run_endRound (P := P) jump hl3
        refine ⟨_, hr, chg_putObj _ _ _, ?_, (World.putObj_heap_other (by omega)).trans hk3⟩
        have := World.putObj_heap_same (w := W3) (o := .loop { ({ rec .ready none with state := .busy } : Loop) with state := if jump.isNone then .ready else .done, pending := jump }) hl3.lt
        rw [hrec] at this ⊢
        exact this
      rintro e a1 Wa hp
      cases e with
      | normal =>
        obtain ⟨W2, hbr, hbody⟩ := hp
        refine ⟨W2, hbr, wpIn_mono hbody ?_⟩
        rintro e a3 W3 hp
        cases e with
        | normal =>
          obtain ⟨hl3, hk3, hkp, hi3⟩ := hp
          obtain ⟨W4, hr, hc4, hl4, hk4⟩ := fin none W3 hl3 hk3
          refine ⟨_, _, hr, .inl ⟨rfl, ⟨hI1 _ _ _ _ (.inr rfl) hi3 hc4, hl4, hk4⟩, hkp.trans (Kp.of_chg hc4 (fun b hb => ⟨?_, ?_⟩) (fun b hb => ⟨?_, ?_⟩))⟩⟩
          · have := hown b hb; have := hl3.lt; omega
          · have := hown b hb; simp; omega
          · have := hl3.lt; omega
          · simp; omega
        | ret =>
          obtain ⟨hl3, hk3, hi3⟩ := hp
          obtain ⟨W4, hr, hc4, hl4, hk4⟩ := fin (some .ret) W3 hl3 hk3
          exact ⟨_, _, hr, .inr ⟨rfl, .ret, hX1 _ _ _ _ hi3 hc4, hl4, hk4⟩⟩
        | exit id =>
          obtain ⟨hl3, hk3, hi3⟩ := hp
          obtain ⟨W4, hr, hc4, hl4, hk4⟩ := fin (some (.exit id)) W3 hl3 hk3
          exact ⟨_, _, hr, .inr ⟨rfl, .exit id, hX1 _ _ _ _ hi3 hc4, hl4, hk4⟩⟩
        | goto t => exact hp.elim
        | panic ch => exact hp.elim
        | outgrown => exact hp.elim
      | exit id => exact hp.elim
      | goto t => exact hp.elim
      | ret => exact hp.elim
      | panic ch => exact hp.elim
      | outgrown => exact hp.elim
    · -- behind the iterator
      rintro e W2 ⟨v, rfl, (⟨hi, hl, hk⟩ | ⟨pre, hpre, c, hi, hl, hk⟩)⟩
      · have hend := run_endLoop (P := P) hl (by rw [hrec]; simp)
        have hpd : (rec .ready none).pending = none := by rw [hrec]
        rw [hpd] at hend
        exact ⟨none, _, hend, hdone _ (hI1 _ _ _ _ (.inr rfl) hi (chg_putObj _ _ _)) ((World.putObj_heap_other (by omega)).trans hk) _ haE⟩
      · have hend := run_endLoop (P := P) hl (by rw [hrec]; simp)
        have hpd : (rec .done (some c)).pending = some c := by rw [hrec]
        rw [hpd] at hend
        exact ⟨some c, _, hend, hstop c pre _ hpre (hX1 _ _ _ _ hi (chg_putObj _ _ _)) ((World.putObj_heap_other (by omega)).trans hk) _ haE⟩

/-- Leaving a function that has ranged over a function: the mark is come to. -/
theorem at_retM {r : Nat} (hr : Ob w r (.deferred (some []))) (h : ∀ w', Chg [r] w.heap.size w w' → w'.heap.size = w.heap.size → ∀ a, E n [mk_ r] l a → ∃ v, (results fn a.tmps).run P w' = .ok v w' ∧ R (.returned v) w') : At P none (FB P fn R) n [mk_ r] k .ret l w := by
  intro a ha
  refine wpIn_ret ?_
  rw [post_ret]
  show LeavesInM _ _ _ _ _ _ _ _ _
  rw [ha.defers]
  exact ⟨by simp, .inl ⟨r, _, rfl, run_takeDeferred hr, h _ (chg_putObj _ _ _) (by simp) a ha⟩⟩

/-! ### Results that lie in boxes -/
inductive ResV (P : Program) (l : Env) (w : World) : List ResultVar → List Value → Prop where
  | nil : ResV P l w [] []
  | tmp {t : Tmp} {v : Value} {rs : List ResultVar} {vs : List Value} (h : lkT l t = some v) (r : ResV P l w rs vs) : ResV P l w (.tmp t :: rs) (v :: vs)
  | cell {t : Tmp} {T : TypeId} {b : Nat} {v : Value} {rs : List ResultVar} {vs : List Value} {U : TypeId} (h : lkT l t = some (.pointer (some ⟨b, 0, none⟩))) (hb : Blk w b [v] U) (ha : aggB P T = some false) (r : ResV P l w rs vs) : ResV P l w (.cell t T :: rs) (v :: vs)
  | cellS {t : Tmp} {T : TypeId} {b : Nat} {cs : List Value} {rs : List ResultVar} {vs : List Value} {U : TypeId} (h : lkT l t = some (.pointer (some ⟨b, 0, none⟩))) (hb : Blk w b cs U) (ha : aggB P T = some true) (hs : (P.info? T).map (·.size) = some cs.length) (r : ResV P l w rs vs) : ResV P l w (.cell t T :: rs) (.agg cs.toArray :: vs)
theorem mapM_resV {a : Act} (ha : E n ds l a) (f : ResultVar → Sem Value) (hf : ∀ t, f (.tmp t) = pure (a.tmps.getD t undef)) (hc : ∀ t T, f (.cell t T) = (do loadVar T (← asAddr (a.tmps.getD t undef)))) {rs : List ResultVar} {vs : List Value} (h : ResV P l w rs vs) : (rs.mapM f).run P w = .ok vs w := by
  induction h with
  | nil => rfl
  | tmp h r ih =>
    have h1 := ha.have_ _ _ h
    simp [List.mapM_cons, hf, ih, Array.getD_eq_getD_getElem?, h1]
  | cell h hb hag r ih =>
    have h1 := ha.have_ _ _ h
    simp [List.mapM_cons, hc, ih, Array.getD_eq_getD_getElem?, h1, asAddr, loadVar, isAgg_of hag, hb.cell]
  | @cellS t T b cs rs vs U h hb hag hs r ih =>
    have h1 := ha.have_ _ _ h
    obtain ⟨i0, hi0, hs0⟩ := Option.map_eq_some_iff.1 hs
    have h2 := run_loadCells_blk (P := P) (i := 0) hb cs.length 0 #[] (by omega)
    simp [List.mapM_cons, hc, ih, Array.getD_eq_getD_getElem?, h1, asAddr, loadVar, isAgg_of hag, sizeOf, typeInfo, hi0, hs0, loadCells]
    simp at h2
    simp [h2, ih]
theorem results_V {a : Act} (ha : E n ds l a) {rs : List ResultVar} {vs : List Value} (hr : fn.results = rs.toArray) (hv : ResV P l w rs vs) : (results fn a.tmps).run P w = .ok (shut vs) w := by
  unfold results
  rw [hr, List.mapM_toArray]
  simp only [Sem.run_bind, Sem.run_map]
  rw [mapM_resV (vs := vs) ha]
  · rcases vs with _ | ⟨v, _ | ⟨u, vs⟩⟩ <;> simp [shut]
  · intro t; rfl
  · intro t T; rfl
  · exact hv
theorem at_retV {rs : List ResultVar} {vs : List Value} (hr : fn.results = rs.toArray) (hv : ResV P l w rs vs) (hR : R (.returned (shut vs)) w) : At P none (FB P fn R) n [] k .ret l w := by
  intro a ha
  refine wpIn_ret ?_
  rw [post_ret]
  show LeavesInM _ _ _ _ _ _ _ _ _
  rw [ha.defers]
  exact ⟨_, results_V ha hr hv, hR⟩
/-- The same behind a range over a function. -/
theorem at_retVM {r : Nat} (ho : Ob w r (.deferred (some []))) {rs : List ResultVar} (hr : fn.results = rs.toArray) (h : ∀ w', Chg [r] w.heap.size w w' → w'.heap.size = w.heap.size → ∃ vs, ResV P l w' rs vs ∧ R (.returned (shut vs)) w') : At P none (FB P fn R) n [mk_ r] k .ret l w :=
  at_retM ho fun w' hc hs a ha => by
    obtain ⟨vs, hv, hR⟩ := h w' hc hs
    exact ⟨_, results_V ha hr hv, hR⟩
end
end Go.Kw
