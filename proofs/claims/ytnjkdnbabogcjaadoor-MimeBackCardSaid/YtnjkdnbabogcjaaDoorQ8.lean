/- Reading reports: what each step comes to; plain: my own text. -/
import Derived.Test.YtnjkdnbabogcjaaDoorQ7
set_option linter.unusedVariables false
set_option linter.unusedSimpArgs false
set_option maxRecDepth 100000
namespace Go.Proofs.YtnjkdnbabogcjaaDoor
open Go Go.RowKit Go.Kw

/-- A field is not what it must be. -/
theorem no_field {r : Bytes} {xs : List Bytes} {rest x rest' name : Bytes} (g : Lns r xs rest) (hc : Lib.cut rest crlf = (x, rest', true)) (hp : Lib.hasPrefix x name = false)
    (hl : ∀ fr to at_ b k, Wit r fr to at_ b k → xs.length < to.length + 11 ∧ ∃ v, (aheadL fr to at_ (jn k)).getD xs.length [] = name ++ v) : NoRep r := by
  intro fr to at_ b k h
  obtain ⟨h1, v, h2⟩ := hl fr to at_ b k h
  have g1 := h.head (Lns.snoc g hc) (j := xs.length) (by simp) h1
  rw [List.getD_eq_getElem?_getD, List.getElem?_append_right (Nat.le_refl _)] at g1
  simp at g1
  rw [List.getD_eq_getElem?_getD] at h2
  rw [g1, h2, hasPrefix_append] at hp
  cases hp
theorem field_trim {x name v : Bytes} (h : x = name ++ v) : Lib.trimPrefix x name = v := by rw [h, trimPrefix_append]
/-- What is read is the report's. -/
theorem read_fix {r fr : Bytes} {to : List Bytes} {at_ : Int} {b : Bytes} {k : Nat} (h : Wit r fr to at_ b k) {x0 x1 x2 x3 x4 x5 x6 x7 n1 f6 w7 : Bytes} {ts : List Bytes} {rest x rest' : Bytes} {n : Int} (g : Lns r ([x0, x1, x2, x3, x4, x5, x6, x7] ++ ts.map (cRP ++ ·)) rest)
    (hc : Lib.cut rest crlf = (x, rest', true)) (hx : Lib.hasPrefix x cRP = false ∨ 100 < ts.length) (e1 : n1 = Lib.trimPrefix x1 cCT) (e6 : f6 = Lib.trimPrefix x6 cSE) (e7 : w7 = Lib.trimPrefix x7 cRE) (hn : Lib.parseIntB 64 w7 = .ok n) :
    f6 = fr ∧ ts = to ∧ n = at_ ∧ n1 = jn k := by
  subst e1; subst e6; subst e7
  obtain ⟨h1, h6, h7, _, _⟩ := h.to g
  refine ⟨field_trim h6, h.all g hc hx, ?_, field_trim h1⟩
  rw [field_trim h7] at hn
  exact parse_inj h.ok.1.2.2.1 h.at1 hn
theorem no_when {r : Bytes} {x0 x1 x2 x3 x4 x5 x6 x7 w7 rest : Bytes} (g : Lns r [x0, x1, x2, x3, x4, x5, x6, x7] rest) (e7 : w7 = Lib.trimPrefix x7 cRE) (hn : ∀ n, Lib.parseIntB 64 w7 ≠ .ok n) : NoRep r := by
  intro fr to at_ b k h
  obtain ⟨_, _, h7, _, _⟩ := h.to (ts := []) (by simpa using g)
  apply hn at_
  rw [e7, field_trim h7]
  exact parse_itoa at_ h.ok.1.2.2.1 h.at1
theorem tail_eq (n : Bytes) : linesP [[], cDD ++ n ++ cDD] = tailP n := rfl
theorem tail_len (n : Bytes) : (tailP n).length = n.length + 8 := by unfold tailP; simp [linesP]
theorem repB_len (fr : Bytes) (to : List Bytes) (at_ : Int) (b n : Bytes) : (repB fr to at_ b n).length = (linesP (aheadL fr to at_ n)).length + b.length + (tailP n).length := by unfold repB; simp; omega
/-- Too short. -/
theorem no_room {r : Bytes} {x0 x1 x2 x3 x4 x5 x6 x7 n1 f6 w7 : Bytes} {ts : List Bytes} {rest x rest' : Bytes} {n : Int} (g : Lns r ([x0, x1, x2, x3, x4, x5, x6, x7] ++ ts.map (cRP ++ ·)) rest)
    (hc : Lib.cut rest crlf = (x, rest', true)) (hx : Lib.hasPrefix x cRP = false ∨ 100 < ts.length) (e1 : n1 = Lib.trimPrefix x1 cCT) (e6 : f6 = Lib.trimPrefix x6 cSE) (e7 : w7 = Lib.trimPrefix x7 cRE) (hn : Lib.parseIntB 64 w7 = .ok n)
    (hr : r.length < (linesP (aheadL f6 ts n n1)).length + (tailP n1).length) : NoRep r := by
  intro fr to at_ b k h
  obtain ⟨e1, e2, e3, e4⟩ := read_fix h g hc hx e1 e6 e7 hn
  rw [e1, e2, e3, e4] at hr
  have := repB_len fr to at_ b (jn k)
  rw [← h.eq] at this
  omega
/-- Not the same when it is written again. -/
theorem no_same {r : Bytes} {x0 x1 x2 x3 x4 x5 x6 x7 n1 f6 w7 : Bytes} {ts : List Bytes} {rest x rest' : Bytes} {n : Int} (g : Lns r ([x0, x1, x2, x3, x4, x5, x6, x7] ++ ts.map (cRP ++ ·)) rest)
    (hc : Lib.cut rest crlf = (x, rest', true)) (hx : Lib.hasPrefix x cRP = false ∨ 100 < ts.length) (e1 : n1 = Lib.trimPrefix x1 cCT) (e6 : f6 = Lib.trimPrefix x6 cSE) (e7 : w7 = Lib.trimPrefix x7 cRE) (hn : Lib.parseIntB 64 w7 = .ok n) {b : Bytes}
    (hb : b = (r.drop (linesP (aheadL f6 ts n n1)).length).take (r.length - (tailP n1).length - (linesP (aheadL f6 ts n n1)).length))
    (hno : ¬ repOK f6 ts n b ∨ ∃ k, IsBnd b k ∧ repB f6 ts n b (jn k) ≠ r) : NoRep r := by
  intro fr to at_ b' k h
  obtain ⟨e1, e2, e3, e4⟩ := read_fix h g hc hx e1 e6 e7 hn
  rw [e1, e2, e3] at hno hb
  rw [e4] at hb
  have hb' : b = b' := by
    rw [hb]
    have := repB_mid fr to at_ b' (jn k)
    rw [← h.eq] at this
    exact this
  subst hb'
  rcases hno with hno | ⟨k', h1, h2⟩
  · exact hno h.ok
  · rw [h1.unique h.bnd] at h2
    exact h2 h.eq.symm

/-! ### The reference's way -/
/-- What 'after' tells: x, up to a line's end, behind 'what'; r' behind that. -/
structure AfterS (s what x r' : Bytes) (ok : Bool) : Prop where
  all : ∀ y t, NoCR y → s = what ++ (y ++ (crlf ++ t)) → ok = true ∧ x = y ∧ r' = t
  lx : x.length ≤ s.length
  lr : r'.length ≤ s.length
theorem AfterS.tt {s what x r' : Bytes} {ok : Bool} (h : AfterS s what x r' ok) (e : ok = true) : AfterS s what x r' true := e ▸ h
/-- What stands behind the first i lines. -/
def Rr (fr : Bytes) (to : List Bytes) (at_ : Int) (b : Bytes) (k : Nat) (i : Nat) : Bytes := linesP ((aheadL fr to at_ (jn k)).drop i) ++ (b ++ tailP (jn k))
theorem rr_0 {r fr : Bytes} {to : List Bytes} {at_ : Int} {b : Bytes} {k : Nat} (h : Wit r fr to at_ b k) : r = (cMV ++ crlf ++ cCT) ++ (jn k ++ (crlf ++ Rr fr to at_ b k 2)) := by
  rw [h.eq]; unfold repB Rr aheadL
  simp [linesP]
theorem rr_2 (fr : Bytes) (to : List Bytes) (at_ : Int) (b : Bytes) (k : Nat) : Rr fr to at_ b k 2 = (crlf ++ cDD ++ jn k) ++ ([] ++ (crlf ++ Rr fr to at_ b k 4)) := by
  unfold Rr aheadL
  simp [linesP]
theorem rr_4 (fr : Bytes) (to : List Bytes) (at_ : Int) (b : Bytes) (k : Nat) : Rr fr to at_ b k 4 = (cTP ++ crlf ++ crlf ++ cSE) ++ (fr ++ (crlf ++ Rr fr to at_ b k 7)) := by
  unfold Rr aheadL
  simp [linesP]
theorem rr_7 (fr : Bytes) (to : List Bytes) (at_ : Int) (b : Bytes) (k : Nat) : Rr fr to at_ b k 7 = cRE ++ (Lib.itoa at_ ++ (crlf ++ Rr fr to at_ b k 8)) := by
  unfold Rr aheadL
  simp [linesP]
theorem rr_to (fr : Bytes) (to : List Bytes) (at_ : Int) (b : Bytes) (k : Nat) {j : Nat} (hj : j < to.length) : Rr fr to at_ b k (8 + j) = cRP ++ (to.getD j [] ++ (crlf ++ Rr fr to at_ b k (8 + (j + 1)))) := by
  have hl : 8 + j < (aheadL fr to at_ (jn k)).length := by rw [aheadL_len]; omega
  have h := aheadL_at fr to at_ (jn k) hj
  rw [List.getD_eq_getElem?_getD, List.getElem?_eq_getElem hl] at h
  unfold Rr
  rw [List.drop_eq_getElem_cons hl, linesP_cons]
  simp only [Option.getD_some] at h
  rw [h]
  simp [Nat.add_assoc]
theorem rr_end (fr : Bytes) (to : List Bytes) (at_ : Int) (b : Bytes) (k : Nat) : ∃ t, Rr fr to at_ b k (8 + to.length) = 45 :: t := by
  have hl : 8 + to.length < (aheadL fr to at_ (jn k)).length := by rw [aheadL_len]; omega
  have h := aheadL_end fr to at_ (jn k)
  rw [List.getD_eq_getElem?_getD, List.getElem?_eq_getElem hl] at h
  simp only [Option.getD_some] at h
  unfold Rr
  rw [List.drop_eq_getElem_cons hl, linesP_cons, h]
  exact ⟨_, rfl⟩
theorem wit_fr_nocr {r fr : Bytes} {to : List Bytes} {at_ : Int} {b : Bytes} {k : Nat} (h : Wit r fr to at_ b k) : NoCR fr := by
  rcases h.ok.1.1 with e | e
  · rw [e]; exact const_nocr (by decide)
  · exact mailbox_nocr e
/-- How far the reference is: s stands behind 8 + ts.length lines. -/
def AtTo (r n fr0 : Bytes) (at0 : Int) (ts : List Bytes) (s : Bytes) : Prop :=
  ∀ fr to at_ b k, Wit r fr to at_ b k → n = jn k ∧ fr0 = fr ∧ at0 = at_ ∧ ts.length ≤ to.length ∧ ts = to.take ts.length ∧ s = Rr fr to at_ b k (8 + ts.length)
/-- Behind the search for the recipients. -/
def Ended (r n fr0 : Bytes) (at0 : Int) (ts : List Bytes) : Prop := ∀ fr to at_ b k, Wit r fr to at_ b k → n = jn k ∧ fr0 = fr ∧ at0 = at_ ∧ ts = to
theorem atTo_start {r x1 s1 x2 s2 x3 s3 x4 s4 : Bytes} {ok1 ok2 ok3 ok4 okn : Bool} {n : Int} (a1 : AfterS r (cMV ++ crlf ++ cCT) x1 s1 ok1) (a2 : AfterS s1 (crlf ++ cDD ++ x1) x2 s2 ok2) (a3 : AfterS s2 (cTP ++ crlf ++ crlf ++ cSE) x3 s3 ok3) (a4 : AfterS s3 cRE x4 s4 ok4)
    (h1 : okn = true ↔ numS x4 ∧ valN x4 ≤ 9223372036854775807) (h2 : okn = true → n = valN x4) {fr : Bytes} {to : List Bytes} {at_ : Int} {b : Bytes} {k : Nat} (h : Wit r fr to at_ b k) : ok1 = true ∧ ok2 = true ∧ ok3 = true ∧ ok4 = true ∧ x1 = jn k ∧ x3 = fr ∧ n = at_ ∧ s4 = Rr fr to at_ b k 8 := by
  obtain ⟨p1, rfl, p3⟩ := a1.all _ _ (jn_nocr k) (rr_0 h)
  obtain ⟨q1, q2, q3⟩ := a2.all [] _ (const_nocr (by decide)) (by rw [p3]; exact rr_2 ..)
  obtain ⟨t1, rfl, t3⟩ := a3.all _ _ (wit_fr_nocr h) (by rw [q3]; exact rr_4 ..)
  obtain ⟨u1, u2, u3⟩ := a4.all _ _ (itoa_nocr h.ok.1.2.2.1) (by rw [t3]; exact rr_7 ..)
  obtain ⟨v1, v2, v3⟩ := numS_itoa h.ok.1.2.2.1 h.at1
  rw [u2] at h1 h2
  have := h2 (h1.2 ⟨v1, v2⟩)
  exact ⟨p1, q1, t1, u1, rfl, rfl, by omega, u3⟩
theorem atTo_init {r x1 s1 x2 s2 x3 s3 x4 s4 : Bytes} {ok1 ok2 ok3 ok4 okn : Bool} {n : Int} (a1 : AfterS r (cMV ++ crlf ++ cCT) x1 s1 ok1) (a2 : AfterS s1 (crlf ++ cDD ++ x1) x2 s2 ok2) (a3 : AfterS s2 (cTP ++ crlf ++ crlf ++ cSE) x3 s3 ok3) (a4 : AfterS s3 cRE x4 s4 ok4)
    (h1 : okn = true ↔ numS x4 ∧ valN x4 ≤ 9223372036854775807) (h2 : okn = true → n = valN x4) : if ok4 then AtTo r x1 x3 n [] s4 else Ended r x1 x3 n [] := by
  split
  · intro fr to at_ b k hw
    obtain ⟨_, _, _, _, e1, e2, e3, e4⟩ := atTo_start a1 a2 a3 a4 h1 h2 hw
    exact ⟨e1, e2, e3, by simp, by simp, e4⟩
  · rename_i h
    intro fr to at_ b k hw
    obtain ⟨_, _, _, h4, _⟩ := atTo_start a1 a2 a3 a4 h1 h2 hw
    exact absurd h4 h
theorem atTo_step {r n fr0 : Bytes} {at0 : Int} {ts : List Bytes} {s x s' : Bytes} (h : AtTo r n fr0 at0 ts s) (a : AfterS s cRP x s' true) (hp : ∃ t, s = cRP ++ t) : AtTo r n fr0 at0 (ts ++ [x]) s' := by
  intro fr to at_ b k hw
  obtain ⟨e1, e2, e3, e4, e5, e6⟩ := h fr to at_ b k hw
  rcases Nat.lt_or_ge ts.length to.length with hlt | hge
  · have hm : to.getD ts.length [] ∈ to := getD_mem hlt
    obtain ⟨_, g2, g3⟩ := a.all _ _ (mailbox_nocr (hw.ok.1.2.2.2 _ hm)) (by rw [e6]; exact rr_to fr to at_ b k hlt)
    refine ⟨e1, e2, e3, by simp; omega, ?_, by rw [g3]; simp⟩
    rw [g2, List.length_append, List.length_singleton]
    have := take_snoc (ps := []) (ls := to) (k := ts.length) hlt
    simp only [List.nil_append] at this
    rw [← e5] at this
    exact this
  · exfalso
    obtain ⟨t, ht⟩ := hp
    obtain ⟨t2, ht2⟩ := rr_end fr to at_ b k
    rw [show ts.length = to.length by omega, ht2, ht] at e6
    simp at e6
theorem atTo_end {r n fr0 : Bytes} {at0 : Int} {ts : List Bytes} {s x s' : Bytes} {ok : Bool} (h : AtTo r n fr0 at0 ts s) (he : (AfterS s cRP x s' ok ∧ ok = false) ∨ 100 < ts.length) {fr : Bytes} {to : List Bytes} {at_ : Int} {b : Bytes} {k : Nat} (hw : Wit r fr to at_ b k) : n = jn k ∧ fr0 = fr ∧ at0 = at_ ∧ ts = to := by
  obtain ⟨e1, e2, e3, e4, e5, e6⟩ := h fr to at_ b k hw
  refine ⟨e1, e2, e3, ?_⟩
  rcases he with ⟨a, rfl⟩ | he
  · rcases Nat.lt_or_ge ts.length to.length with hlt | hge
    · exfalso
      have hm : to.getD ts.length [] ∈ to := getD_mem hlt
      obtain ⟨g1, _, _⟩ := a.all _ _ (mailbox_nocr (hw.ok.1.2.2.2 _ hm)) (by rw [e6]; exact rr_to fr to at_ b k hlt)
      cases g1
    · rw [e5, List.take_of_length_le hge]
  · have := hw.ok.2.1; omega
theorem ended_room {r n fr0 : Bytes} {at0 : Int} {ts : List Bytes} (h : Ended r n fr0 at0 ts) (hr : r.length < (linesP (aheadL fr0 ts at0 n)).length + (tailP n).length) : NoRep r := by
  intro fr to at_ b k hw
  obtain ⟨rfl, rfl, rfl, rfl⟩ := h fr to at_ b k hw
  have := repB_len fr0 ts at0 b (jn k)
  rw [← hw.eq] at this
  omega
theorem ended_same {r n fr0 : Bytes} {at0 : Int} {ts : List Bytes} (h : Ended r n fr0 at0 ts) {b : Bytes} (hb : b = (r.drop (linesP (aheadL fr0 ts at0 n)).length).take (r.length - (tailP n).length - (linesP (aheadL fr0 ts at0 n)).length))
    (hno : ¬ repOK fr0 ts at0 b ∨ ∃ k, IsBnd b k ∧ repB fr0 ts at0 b (jn k) ≠ r) : NoRep r := by
  intro fr to at_ b' k hw
  obtain ⟨rfl, rfl, rfl, rfl⟩ := h fr to at_ b' k hw
  have hb' : b = b' := by
    rw [hb]
    have := repB_mid fr0 ts at0 b' (jn k)
    rw [← hw.eq] at this
    exact this
  subst hb'
  rcases hno with hno | ⟨k', h1, h2⟩
  · exact hno hw.ok
  · rw [h1.unique hw.bnd] at h2
    exact h2 hw.eq.symm
end Go.Proofs.YtnjkdnbabogcjaaDoor
