/- Messages, and what is asked of them; AppendInt: my own text. -/
import Derived.Test.YtnjkdnbabogcjaaDoorQ3
import Derived.Lib.ItoaLen
set_option linter.unusedVariables false
set_option linter.unusedSimpArgs false
set_option maxRecDepth 100000
namespace Go.Proofs.YtnjkdnbabogcjaaDoor
open Go Go.RowKit Go.Kw

theorem strconv_AppendInt_ok {w : World} {lo : Nat} {v : Value} {l : Bytes} (h : OwnR w lo 5 v l) (hl : lo ≤ w.heap.size) (hN : NG ≤ lo) (hg : Gl w) (i : Int) (h0 : -9223372036854775808 ≤ i) (h1 : i ≤ 9223372036854775807) (hlim : l.length + 21 ≤ 140737488355328) :
    Rt Tryd.prog 83 #[v, .int .i64 i, .int .i64 10] w fun v' w' => OwnR w' lo 5 v' (l ++ Lib.itoa i) ∧ Chg [] lo w w' :=
  (Tryd.strconv_AppendInt_10 lo l.length i h0 h1 v (bcells l) w h hl hlim (hg.below lo hN)).mono fun e w' ⟨v', he, ho, hb, _⟩ => ⟨v', he, by
    show World.ownsRow _ _ _ _ _ _ _
    rw [List.length_append, bcells_append]
    exact ho, Chg.of_below hb hl⟩
theorem itoa_len (n : Int) (h0 : -9223372036854775808 ≤ n) (h1 : n ≤ 9223372036854775807) : (Lib.itoa n).length ≤ 21 := Lib.itoa_length_le n h0 h1
theorem putL_take {ls : List Bytes} {k : Nat} (h : k < ls.length) : putL (ls.take (k + 1)) = putL (ls.take k) ++ put1 (ls.getD k []) := by
  rw [List.take_add_one, List.getElem?_eq_getElem h, putL_append]
  simp [putL, List.getD_eq_getElem?_getD, List.getElem?_eq_getElem h]
theorem put_step {ls : List Bytes} {k : Nat} {o : Bytes} (h : k < ls.length) (ho : o = putL (ls.take k)) : ((o ++ Lib.itoa ((ls.getD k []).length : Int)) ++ [58] ++ ls.getD k []) ++ [44] = putL (ls.take (k + 1)) := by
  rw [putL_take h, ho, itoa_nat]; simp [put1]
theorem put_step' {ls : List Bytes} {k : Nat} {o : Bytes} (h : k < ls.length) (ho : o = putL (ls.take k)) : ((o ++ (Lib.itoa ((ls.getD k []).length : Int) ++ [58])) ++ ls.getD k []) ++ [44] = putL (ls.take (k + 1)) := by
  rw [putL_take h, ho, itoa_nat]; simp [put1]

theorem take_snoc {ps ls : List Bytes} {k : Nat} (h : k < ls.length) : (ps ++ ls.take k) ++ [ls.getD k []] = ps ++ ls.take (k + 1) := by
  rw [List.take_add_one, List.getElem?_eq_getElem h, List.append_assoc]
  simp [List.getD_eq_getElem?_getD, List.getElem?_eq_getElem h]

/-! ### Messages -/
def smallP (s : Bytes) (n : Int) : Prop := 1 ≤ s.length ∧ (s.length : Int) ≤ n ∧ ∀ j, j < s.length → 97 ≤ bAt s j ∧ bAt s j ≤ 122
noncomputable instance (s : Bytes) (n : Int) : Decidable (smallP s n) := Classical.propDecidable _
def envP (fr : Bytes) (to : List Bytes) (at_ : Int) : Prop := (fr = [] ∨ mailboxP fr) ∧ 1 ≤ to.length ∧ 0 ≤ at_ ∧ ∀ s, s ∈ to → mailboxP s
noncomputable instance (fr : Bytes) (to : List Bytes) (at_ : Int) : Decidable (envP fr to at_) := Classical.propDecidable _
def checkP (fr : Bytes) (to : List Bytes) (at_ : Int) (body : Bytes) : Prop := envP fr to at_ ∧ to.length ≤ 100 ∧ body.length ≤ 500000
noncomputable instance (fr : Bytes) (to : List Bytes) (at_ : Int) (body : Bytes) : Decidable (checkP fr to at_ body) := Classical.propDecidable _
structure Msg where
  id : Int
  cls : Bytes
  fr : Bytes
  to : List Bytes
  at_ : Int
  body : Bytes
def msgP (m : Msg) : Prop := checkP m.fr m.to m.at_ m.body ∧ 1 ≤ m.id ∧ m.id ≤ 1099511627776 ∧ smallP m.cls 20
noncomputable instance (m : Msg) : Decidable (msgP m) := Classical.propDecidable _
def partsM (m : Msg) : List Bytes := [Lib.itoa m.id, m.cls, m.fr, Lib.itoa m.at_, Lib.itoa (m.to.length : Int)] ++ m.to ++ [m.body]
/-- b is the message's bytes. -/
def Enc (m : Msg) (b : Bytes) : Prop := msgP m ∧ b = putL (partsM m)
theorem mailbox_len {s : Bytes} (h : mailboxP s) : s.length ≤ 320 := by
  obtain ⟨h1, h2, ⟨h3, _⟩, _⟩ := h
  simp at h3
  omega
theorem partsM_short {m : Msg} (h : msgP m) (h2 : m.at_ ≤ 9223372036854775807) : Short (partsM m) := by
  obtain ⟨⟨⟨e1, e2, e3, e4⟩, e5, e6⟩, i1, i2, c1, c2, c3⟩ := h
  intro p hp
  unfold partsM at hp
  simp only [List.mem_append, List.mem_cons, List.not_mem_nil, or_false] at hp
  rcases hp with (((rfl | rfl | rfl | rfl | rfl) | h) | rfl)
  · have := itoa_len m.id (by omega) (by omega); omega
  · omega
  · rcases e1 with e1 | e1
    · rw [e1]; simp
    · have := mailbox_len e1; omega
  · have := itoa_len m.at_ (by omega) h2; omega
  · have := itoa_len m.to.length (by omega) (by omega); omega
  · have := mailbox_len (e4 p h); omega
  · omega
end Go.Proofs.YtnjkdnbabogcjaaDoor
