/- Bytes as a message: plain: my own text. -/
import Derived.Test.YtnjkdnbabogcjaaDoorQ4
set_option linter.unusedVariables false
set_option linter.unusedSimpArgs false
namespace Go.Proofs.YtnjkdnbabogcjaaDoor
open Go Go.RowKit Go.Kw

theorem parseM_val : ∀ (s : Bytes) (a : Nat), (∀ c, c ∈ s → 48 ≤ c.toNat ∧ c.toNat ≤ 57) → valF a s ≤ 9223372036854775807 → Lib.parseUintM (2 ^ 64 - 1) a s = .ok (valF a s)
  | [], a, _, _ => rfl
  | c :: r, a, h, hv => by
    have hc := h c (by simp)
    have hge := valF_ge r (10 * a + (c.toNat - 48))
    have hv' : valF (10 * a + (c.toNat - 48)) r ≤ 9223372036854775807 := hv
    have e : a * 10 + (c.toNat - 48) = 10 * a + (c.toNat - 48) := by omega
    unfold Lib.parseUintM
    rw [if_pos hc, if_neg (by omega), if_neg (by rw [show 2 ^ 64 - 1 = 18446744073709551615 from rfl]; omega), e]
    exact parseM_val r _ (fun d hd => h d (by simp [hd])) hv'
theorem parse_itoa (n : Int) (h0 : 0 ≤ n) (h1 : n ≤ 9223372036854775807) : Lib.parseIntB 64 (Lib.itoa n) = .ok n := by
  obtain ⟨k, rfl⟩ := Int.eq_ofNat_of_zero_le h0
  rw [itoa_nat]
  obtain ⟨⟨g1, g2, g3⟩, g4, _⟩ := decDigits_num k
  have hm := parseM_val (Lib.decDigits k) 0 (fun c hc => g2.mem hc) (by show valN _ ≤ _; rw [g4]; omega)
  have hm' : Lib.parseUintM (2 ^ 64 - 1) 0 (Lib.decDigits k) = .ok k := hm.trans (congrArg _ g4)
  generalize hd : Lib.decDigits k = s at *
  cases s with
  | nil => exact absurd rfl g1
  | cons c r =>
    have hc := g2.mem (c := c) (by simp)
    unfold Lib.parseIntB
    have e1 : ¬ (c.toNat = 43 ∨ c.toNat = 45) := by omega
    have e2 : ¬ (c.toNat = 45) := by omega
    have e3 : Lib.parseUintB 64 (c :: r) = .ok k := by
      unfold Lib.parseUintB
      rw [if_neg (by simp), hm']
    have e4 : (if c.toNat = 43 ∨ c.toNat = 45 then r else c :: r) = c :: r := if_neg e1
    simp only [e4, e3]
    simp only [e2, not_false_eq_true, true_and, false_and, if_false]
    rw [if_neg (by rw [show 2 ^ (64 - 1) = 9223372036854775808 from rfl]; omega)]
/-- The message that b is. -/
def DecP (m : Msg) (b : Bytes) : Prop := Enc m b ∧ m.at_ ≤ 9223372036854775807
def NoM (b : Bytes) : Prop := ∀ m, ¬ DecP m b
theorem dec_prefix {m : Msg} {b r : Bytes} {xs : List Bytes} (h : DecP m b) (hx : Short xs) (hb : b = putL xs ++ r) : ∃ qs, partsM m = xs ++ qs ∧ r = putL qs :=
  putL_prefix xs (partsM m) r hx (partsM_short h.1.1 h.2) (hb.symm.trans h.1.2)
theorem partsM_len (m : Msg) : (partsM m).length = m.to.length + 6 := by unfold partsM; simp
theorem dec_to {m : Msg} {b : Bytes} (h : DecP m b) : 1 ≤ m.to.length ∧ m.to.length ≤ 100 := ⟨h.1.1.1.1.2.1, h.1.1.1.2.1⟩
theorem dec_at0 {m : Msg} {b : Bytes} (h : DecP m b) : 0 ≤ m.at_ := h.1.1.1.1.2.2.1
theorem dec_id {m : Msg} {b : Bytes} (h : DecP m b) : 1 ≤ m.id ∧ m.id ≤ 1099511627776 := ⟨h.1.1.2.1, h.1.1.2.2.1⟩
theorem cut_putL {q : Bytes} {qs : List Bytes} (h : q.length ≤ 1000000) : CutR (putL (q :: qs)) q (putL qs) := ⟨h, rfl⟩
theorem short_snoc {xs : List Bytes} {x : Bytes} (h : Short xs) (hx : x.length ≤ 1000000) : Short (xs ++ [x]) := fun p hp => (List.mem_append.1 hp).elim (h p) (fun h => by rw [List.mem_singleton.1 h]; exact hx)
theorem cut_len {r x r' : Bytes} (h : CutR r x r') : x.length + r'.length < r.length := by
  have := congrArg List.length h.2
  unfold put1 at this
  simp at this
  omega
theorem parse_range {s : Bytes} {n : Int} (h : Lib.parseIntB 64 s = .ok n) : -9223372036854775808 ≤ n ∧ n ≤ 9223372036854775807 := by
  unfold Lib.parseIntB at h
  split at h
  · cases h
  · simp only [] at h
    split at h
    · cases h
    · cases h
    · split at h
      · cases h
      · split at h
        · cases h
        · injection h with h
          rename_i h1 h2
          rw [show 2 ^ (64 - 1) = 9223372036854775808 from rfl] at h1 h2
          split at h <;> rename_i h3
          · have : ¬ (9223372036854775808 < _) := fun h4 => h2 ⟨h3, h4⟩
            omega
          · have : ¬ (9223372036854775808 ≤ _) := fun h4 => h1 ⟨h3, h4⟩
            omega
/-- No part stands where one must. -/
theorem no_text {b r : Bytes} {xs : List Bytes} (hno : ∀ x r', ¬ CutR r x r') (hx : Short xs) (hb : b = putL xs ++ r) (hk : ∀ m, DecP m b → xs.length < (partsM m).length) : NoM b := by
  intro m hm
  obtain ⟨qs, e1, e2⟩ := dec_prefix hm hx hb
  cases qs with
  | nil => have := hk m hm; rw [e1] at this; simp at this
  | cons q qs =>
    have hs := partsM_short hm.1.1 hm.2
    exact hno q (putL qs) (e2 ▸ cut_putL (hs q (by rw [e1]; simp)))
/-- No number stands where one must. -/
theorem no_number {b r : Bytes} {xs : List Bytes} (hno : ∀ n x r', CutR r x r' → Lib.parseIntB 64 x ≠ .ok n) (hx : Short xs) (hb : b = putL xs ++ r) (hk : ∀ m, DecP m b → ∃ n : Int, 0 ≤ n ∧ n ≤ 9223372036854775807 ∧ (partsM m)[xs.length]? = some (Lib.itoa n)) : NoM b := by
  intro m hm
  obtain ⟨qs, e1, e2⟩ := dec_prefix hm hx hb
  obtain ⟨n, h0, h1, hn⟩ := hk m hm
  rw [e1, List.getElem?_append_right (Nat.le_refl _), Nat.sub_self] at hn
  cases qs with
  | nil => simp at hn
  | cons q qs =>
    simp at hn
    subst hn
    have hs := partsM_short hm.1.1 hm.2
    exact hno n (Lib.itoa n) (putL qs) (e2 ▸ cut_putL (hs _ (by rw [e1]; simp))) (parse_itoa n h0 h1)
theorem parse_inj {n : Int} (h0 : 0 ≤ n) (h1 : n ≤ 9223372036854775807) {k : Int} (h : Lib.parseIntB 64 (Lib.itoa n) = .ok k) : k = n := by
  rw [parse_itoa n h0 h1] at h; injection h with h; exact h.symm
/-- The count. -/
theorem dec_count {m : Msg} {b r x1 x2 x3 x4 x5 : Bytes} {ts : List Bytes} {n : Int} (hm : DecP m b) (hx : Short ([x1, x2, x3, x4, x5] ++ ts)) (hb : b = putL ([x1, x2, x3, x4, x5] ++ ts) ++ r) (hn : Lib.parseIntB 64 x5 = .ok n) : n = m.to.length := by
  obtain ⟨qs, e1, e2⟩ := dec_prefix hm hx hb
  unfold partsM at e1
  simp only [List.cons_append, List.nil_append, List.cons.injEq] at e1
  obtain ⟨_, _, _, _, h5, _⟩ := e1
  rw [← h5] at hn
  have := dec_to hm
  exact parse_inj (by omega) (by omega) hn
theorem dec_all {m : Msg} {b r x1 x2 x3 x4 x5 x6 : Bytes} {ts : List Bytes} {n1 n4 n5 : Int} (hm : DecP m b) (hx : Short ([x1, x2, x3, x4, x5] ++ ts ++ [x6])) (hb : b = putL ([x1, x2, x3, x4, x5] ++ ts ++ [x6]) ++ r)
    (h1 : Lib.parseIntB 64 x1 = .ok n1) (h4 : Lib.parseIntB 64 x4 = .ok n4) (h5 : Lib.parseIntB 64 x5 = .ok n5) (hl : (ts.length : Int) = n5) : m = ⟨n1, x2, x3, ts, n4, x6⟩ := by
  have hc := dec_count (r := putL [x6] ++ r) hm (fun p hp => hx p (List.mem_append_left _ hp)) (by rw [hb, putL_append, List.append_assoc]) h5
  obtain ⟨qs, e1, e2⟩ := dec_prefix hm hx hb
  have hlen := congrArg List.length e1
  rw [partsM_len, List.length_append, List.length_append, List.length_append] at hlen
  simp only [List.length_cons, List.length_nil] at hlen
  have hq : qs = [] := List.eq_nil_of_length_eq_zero (by omega)
  subst hq
  rw [List.append_nil] at e1
  unfold partsM at e1
  simp only [List.cons_append, List.nil_append, List.cons.injEq] at e1
  obtain ⟨g1, g2, g3, g4, g5, g6⟩ := e1
  obtain ⟨g7, g8⟩ := List.append_inj' g6 rfl
  have hid := dec_id hm
  have hat := dec_at0 hm
  rw [← g1] at h1
  rw [← g4] at h4
  have k1 := parse_inj (by omega) (by omega) h1
  have k4 := parse_inj hat hm.2 h4
  cases m
  simp at *
  exact ⟨k1.symm, g2, g3, g7, k4.symm, g8⟩
/-- All parts that stand there, at most 110, are the message's. -/
theorem ref_all {m : Msg} {b r : Bytes} {ls : List Bytes} (h : DecP m b) (hx : Short ls) (hb : b = putL ls ++ r) (hs : ls.length = 110 ∨ ∀ x r', ¬ CutR r x r') : partsM m = ls ∧ r = [] := by
  obtain ⟨qs, e1, e2⟩ := dec_prefix h hx hb
  have hl := congrArg List.length e1
  rw [partsM_len, List.length_append] at hl
  have ht := dec_to h
  cases qs with
  | nil => exact ⟨by rw [e1, List.append_nil], e2⟩
  | cons q qs =>
    exfalso
    rcases hs with hs | hs
    · omega
    · exact hs q (putL qs) (e2 ▸ cut_putL (partsM_short h.1.1 h.2 q (by rw [e1]; simp)))
theorem numS_itoa {k : Int} (h0 : 0 ≤ k) (h1 : k ≤ 9223372036854775807) : numS (Lib.itoa k) ∧ valN (Lib.itoa k) ≤ 9223372036854775807 ∧ (valN (Lib.itoa k) : Int) = k := by
  obtain ⟨j, rfl⟩ := Int.eq_ofNat_of_zero_le h0
  rw [itoa_nat]
  obtain ⟨g1, g2, _⟩ := decDigits_num j
  exact ⟨g1, by rw [g2]; omega, by rw [g2]⟩
/-- The message out of its parts. -/
theorem ref_msg {m : Msg} {b : Bytes} {ls : List Bytes} {n1 n4 : Int} {o1 o4 : Bool} (h : DecP m b) (hp : partsM m = ls) (k1 : o1 = true ↔ numS (ls.getD 0 []) ∧ valN (ls.getD 0 []) ≤ 9223372036854775807) (k1' : o1 = true → n1 = valN (ls.getD 0 []))
    (k4 : o4 = true ↔ numS (ls.getD 3 []) ∧ valN (ls.getD 3 []) ≤ 9223372036854775807) (k4' : o4 = true → n4 = valN (ls.getD 3 [])) {N : Nat} (hN : N = ls.length - 1) : m = ⟨n1, ls.getD 1 [], ls.getD 2 [], (ls.drop 5).take (N - 5), n4, ls.getD N []⟩ := by
  have hid := dec_id h
  have hat := dec_at0 h
  have e0 : ls.getD 0 [] = Lib.itoa m.id := by rw [← hp]; rfl
  have e3 : ls.getD 3 [] = Lib.itoa m.at_ := by rw [← hp]; rfl
  have e1 : ls.getD 1 [] = m.cls := by rw [← hp]; rfl
  have e2 : ls.getD 2 [] = m.fr := by rw [← hp]; rfl
  obtain ⟨a1, a2, a3⟩ := numS_itoa (k := m.id) (by omega) (by omega)
  obtain ⟨b1, b2, b3⟩ := numS_itoa hat h.2
  rw [e0] at k1 k1'
  rw [e3] at k4 k4'
  have q1 := k1' (k1.2 ⟨a1, a2⟩)
  have q4 := k4' (k4.2 ⟨b1, b2⟩)
  have hl : ls.length = m.to.length + 6 := by rw [← hp, partsM_len]
  have e5 : (ls.drop 5).take (N - 5) = m.to := by
    rw [← hp]; unfold partsM
    rw [List.append_assoc, List.drop_append, List.drop_eq_nil_of_le (by simp)]
    simp only [List.length_cons, List.length_nil, List.nil_append]
    rw [show N - 5 = m.to.length by omega, Nat.sub_self, List.drop_zero, List.take_left']
    rfl
  have e6 : ls.getD N [] = m.body := by
    rw [List.getD_eq_getElem?_getD, ← hp]; unfold partsM
    rw [List.getElem?_append_right (by simp; omega)]
    simp only [List.length_append, List.length_cons, List.length_nil]
    rw [show N - (0 + 1 + 1 + 1 + 1 + 1 + m.to.length) = 0 by omega]
    rfl
  rw [e1, e2, e5, e6]
  cases m
  simp at *
  exact ⟨by omega, by omega⟩
theorem dec_uniq {m m' : Msg} {b : Bytes} (h : DecP m b) (h' : DecP m' b) : m = m' := by
  have e := putL_inj (partsM_short h.1.1 h.2) (partsM_short h'.1.1 h'.2) (h.1.2.symm.trans h'.1.2)
  have hl := congrArg List.length e
  rw [partsM_len, partsM_len] at hl
  unfold partsM at e
  simp only [List.cons_append, List.nil_append, List.cons.injEq] at e
  obtain ⟨g1, g2, g3, g4, g5, g6⟩ := e
  obtain ⟨g7, g8⟩ := List.append_inj' g6 rfl
  have i1 := itoa_inj (by have := dec_id h; omega) (by have := dec_id h'; omega) g1
  have i4 := itoa_inj (dec_at0 h) (dec_at0 h') g4
  cases m; cases m'
  simp at *
  exact ⟨i1, g2, g3, g7, i4, g8⟩
end Go.Proofs.YtnjkdnbabogcjaaDoor
