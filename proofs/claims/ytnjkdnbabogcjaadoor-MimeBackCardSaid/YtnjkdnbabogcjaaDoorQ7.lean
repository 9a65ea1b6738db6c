/- Reports: what they are, and that they are read in one way alone; plain: my own text. -/
import Derived.Test.YtnjkdnbabogcjaaDoorQ5
set_option linter.unusedVariables false
set_option linter.unusedSimpArgs false
set_option maxRecDepth 100000
namespace Go.Proofs.YtnjkdnbabogcjaaDoor
open Go Go.RowKit Go.Kw

abbrev crlf : Bytes := [13, 10]
abbrev cMV : Bytes := [77, 73, 77, 69, 45, 86, 101, 114, 115, 105, 111, 110, 58, 32, 49, 46, 48]
abbrev cCT : Bytes := [67, 111, 110, 116, 101, 110, 116, 45, 84, 121, 112, 101, 58, 32, 109, 117, 108, 116, 105, 112, 97, 114, 116, 47, 109, 105, 120, 101, 100, 59, 32, 98, 111, 117, 110, 100, 97, 114, 121, 61]
abbrev cTP : Bytes := [67, 111, 110, 116, 101, 110, 116, 45, 84, 121, 112, 101, 58, 32, 116, 101, 120, 116, 47, 112, 108, 97, 105, 110]
abbrev cSE : Bytes := [83, 101, 110, 100, 101, 114, 58, 32]
abbrev cRE : Bytes := [82, 101, 99, 101, 105, 118, 101, 100, 58, 32]
abbrev cRP : Bytes := [82, 101, 99, 105, 112, 105, 101, 110, 116, 58, 32]
abbrev cRF : Bytes := [67, 111, 110, 116, 101, 110, 116, 45, 84, 121, 112, 101, 58, 32, 109, 101, 115, 115, 97, 103, 101, 47, 114, 102, 99, 56, 50, 50]
abbrev cDD : Bytes := [45, 45]
abbrev cJO : Bytes := [106, 111, 117, 114, 110, 97, 108, 45]
def linesP (l : List Bytes) : Bytes := (l.map (· ++ crlf)).flatten
theorem linesP_nil : linesP [] = [] := rfl
theorem linesP_cons (x : Bytes) (l : List Bytes) : linesP (x :: l) = x ++ crlf ++ linesP l := rfl
theorem linesP_append (a b : List Bytes) : linesP (a ++ b) = linesP a ++ linesP b := by simp [linesP]
theorem linesP_snoc (a : List Bytes) (x : Bytes) : linesP (a ++ [x]) = linesP a ++ x ++ crlf := by rw [linesP_append]; simp [linesP]

theorem linesP_take (ls : List Bytes) {k : Nat} (h : k < ls.length) : linesP (ls.take (k + 1)) = linesP (ls.take k) ++ ls.getD k [] ++ crlf := by
  rw [List.take_add_one, List.getElem?_eq_getElem h]
  show linesP (ls.take k ++ [ls[k]]) = _
  rw [linesP_snoc, List.getD_eq_getElem?_getD, List.getElem?_eq_getElem h]
  rfl
theorem linesP_take_le (ls : List Bytes) (k : Nat) : (linesP (ls.take k)).length ≤ (linesP ls).length := by
  conv => rhs; rw [← List.take_append_drop k ls, linesP_append, List.length_append]
  omega
theorem line_step {ls : List Bytes} {k : Nat} {o : Bytes} (h : k < ls.length) (ho : o = linesP (ls.take k)) : (o ++ ls.getD k []) ++ crlf = linesP (ls.take (k + 1)) := by rw [linesP_take ls h, ho]
theorem line_room (ls : List Bytes) {k : Nat} (h : k < ls.length) : (ls.getD k []).length + 2 + (linesP (ls.take k)).length ≤ (linesP ls).length := by
  refine Nat.le_trans ?_ (linesP_take_le ls (k + 1))
  rw [linesP_take ls h]
  simp only [List.length_append, List.length_cons, List.length_nil]
  omega

/-! ### A line's end -/
def NoCR (s : Bytes) : Prop := ∀ c, c ∈ s → c ≠ 13
theorem NoCR.append {a b : Bytes} (ha : NoCR a) (hb : NoCR b) : NoCR (a ++ b) := fun c hc => (List.mem_append.1 hc).elim (ha c) (hb c)
theorem index_line {x r : Bytes} (h : NoCR x) : Lib.index (x ++ crlf ++ r) crlf = x.length := by
  refine Lib.index_first (by simp) ?_ (fun j hj => ?_)
  · unfold Lib.occAt
    rw [List.append_assoc, List.drop_left]
    rfl
  · unfold Lib.occAt
    rw [List.append_assoc, List.drop_append_of_le_length (by omega), List.drop_eq_getElem_cons hj]
    have : x[j] ≠ 13 := h _ (List.getElem_mem hj)
    show ((13 : UInt8) == x[j] && List.isPrefixOf [10] _) = false
    rw [show ((13 : UInt8) == x[j]) = false from by rw [beq_eq_false_iff_ne]; exact fun e => this e.symm]
    rfl
theorem cut_line {x r : Bytes} (h : NoCR x) : Lib.cut (x ++ crlf ++ r) crlf = (x, r, true) := by
  unfold Lib.cut
  rw [index_line h, if_pos (by omega)]
  simp
theorem cut_true {s x r : Bytes} (h : Lib.cut s crlf = (x, r, true)) : s = x ++ crlf ++ r ∧ r.length + 2 + x.length = s.length := by
  unfold Lib.cut at h
  rcases Lib.index_spec s crlf with ⟨h1, h2⟩ | ⟨i, h1, h2, h3, h4⟩
  · rw [h1, if_neg (by omega)] at h
    simp at h
  · rw [h1, if_pos (by omega)] at h
    simp only [Prod.mk.injEq, and_true] at h
    obtain ⟨e1, e2⟩ := h
    unfold Lib.occAt at h3
    obtain ⟨t, ht⟩ := List.isPrefixOf_iff_prefix.1 h3
    have e3 : s.drop (i + 2) = t := by
      rw [← List.drop_drop, ← ht]; rfl
    have e4 : s = s.take i ++ (crlf ++ t) := by rw [ht, List.take_append_drop]
    have hi : (Int.toNat (i : Int)) = i := by omega
    rw [hi] at e1 e2
    have e5 : r = t := by rw [← e2, ← e3]; rfl
    subst e5
    have e6 : s = x ++ crlf ++ r := by rw [← e1, List.append_assoc]; exact e4
    refine ⟨e6, ?_⟩
    have := congrArg List.length e6
    simp at this
    omega

theorem parts_mem_all : ∀ (s : Bytes) (c : UInt8), c ∈ s → c = 46 ∨ ∃ p, p ∈ parts s ∧ c ∈ p
  | [], c, h => by simp at h
  | d :: r, c, h => by
    have ih := parts_mem_all r c
    unfold parts
    split
    · rename_i e
      rcases List.mem_cons.1 h with rfl | h
      · exact .inl e
      · rcases ih h with h | ⟨p, hp, hc⟩
        · exact .inl h
        · exact .inr ⟨p, by simp [hp], hc⟩
    · split
      · rename_i p ps hq
        rcases List.mem_cons.1 h with rfl | h
        · exact .inr ⟨c :: p, by simp, by simp⟩
        · rcases ih h with h | ⟨q, hp, hc⟩
          · exact .inl h
          · rw [hq] at hp
            rcases List.mem_cons.1 hp with rfl | hp
            · exact .inr ⟨d :: q, by simp, by simp [hc]⟩
            · exact .inr ⟨q, by simp [hp], hc⟩
      · rename_i hq
        exact absurd hq (parts_ne r)
theorem mem_bAt {s : Bytes} {c : UInt8} (h : c ∈ s) : ∃ j, j < s.length ∧ bAt s j = c.toNat := by
  obtain ⟨j, hj, rfl⟩ := List.getElem_of_mem h
  exact ⟨j, hj, bAt_get hj⟩
/-- A byte of an address. -/
def addrP (c : Int) : Prop := letterP c ∨ markP c ∨ c = 45 ∨ c = 46 ∨ c = 64
theorem mailbox_bytes {s : Bytes} (h : mailboxP s) : ∀ c, c ∈ s → addrP c.toNat := by
  obtain ⟨h1, h2, ⟨h3, h4⟩, h5⟩ := h
  intro c hc
  rcases lastB_spec s 64 with ⟨g, _⟩ | ⟨i, g1, g2, g3, _⟩
  · omega
  rw [g2] at h4 h5
  have hi : (Int.toNat (i : Int)) = i := by omega
  rw [hi] at h4 h5
  have e : s = s.take i ++ (s[i] :: s.drop (i + 1)) := by rw [← List.drop_eq_getElem_cons g1, List.take_append_drop]
  rw [e] at hc
  unfold addrP
  rcases List.mem_append.1 hc with hc | hc
  · rcases parts_mem_all _ _ hc with hc | ⟨p, hp, hc⟩
    · subst hc; right; right; right; left; rfl
    · obtain ⟨j, hj, e⟩ := mem_bAt hc
      have := (h5 p hp).2 j hj
      rw [e] at this
      rcases this with h | h
      · exact .inl h
      · exact .inr (.inl h)
  · rcases List.mem_cons.1 hc with hc | hc
    · rw [bAt_get g1] at g3
      rw [hc]
      right; right; right; right
      exact g3
    · rcases parts_mem_all _ _ hc with hc | ⟨p, hp, hc⟩
      · subst hc; right; right; right; left; rfl
      · obtain ⟨j, hj, e⟩ := mem_bAt hc
        have := (h4 p hp).2.2.2.2 j hj
        rw [e] at this
        rcases this with h | h
        · exact .inl h
        · exact .inr (.inr (.inl h))
theorem addr_ne {c : UInt8} (h : addrP c.toNat) : c ≠ 13 ∧ c ≠ 10 ∧ c ≠ 32 := by
  unfold addrP letterP markP at h
  refine ⟨?_, ?_, ?_⟩ <;> · intro e; subst e; simp at h
theorem mailbox_nocr {s : Bytes} (h : mailboxP s) : NoCR s := fun c hc => (addr_ne (mailbox_bytes h c hc)).1
theorem digits_nocr (n : Nat) : NoCR (Lib.decDigits n) := fun c hc e => by
  have := (decDigits_num n).1.2.1.mem hc
  subst e; simp at this
theorem itoa_nocr {n : Int} (h : 0 ≤ n) : NoCR (Lib.itoa n) := by
  obtain ⟨k, rfl⟩ := Int.eq_ofNat_of_zero_le h
  rw [itoa_nat]; exact digits_nocr k
def jn (k : Nat) : Bytes := cJO ++ Lib.itoa (k : Int)
def dj (k : Nat) : Bytes := cDD ++ jn k
theorem jn_nocr (k : Nat) : NoCR (jn k) := NoCR.append (by intro c hc; simp [cJO] at hc; rcases hc with rfl | rfl | rfl | rfl | rfl | rfl | rfl | rfl <;> decide) (itoa_nocr (by omega))
theorem jn_inj {a b : Nat} (h : jn a = jn b) : a = b := by
  unfold jn at h
  have := itoa_inj (by omega) (by omega) (List.append_cancel_left h)
  omega
theorem jn_len (k : Nat) (h : k ≤ 9223372036854775807) : (jn k).length ≤ 29 := by
  have := itoa_len (k : Int) (by omega) (by omega)
  unfold jn; simp; omega

/-! ### The boundary -/
/-- The boundary of b is the k-th. -/
def IsBnd (b : Bytes) (k : Nat) : Prop := Lib.index b (dj k) < 0 ∧ ∀ j, j < k → 0 ≤ Lib.index b (dj j)
theorem IsBnd.unique {b : Bytes} {k j : Nat} (h : IsBnd b k) (g : IsBnd b j) : k = j := by
  rcases Nat.lt_trichotomy k j with e | e | e
  · have := g.2 k e; have := h.1; omega
  · exact e
  · have := h.2 j e; have := g.1; omega
theorem pigeon : ∀ (N M : Nat) (f : Nat → Nat), (∀ i, i < M → f i < N) → (∀ i j, i < M → j < M → f i = f j → i = j) → M ≤ N
  | 0, M, f, hf, _ => by
    rcases Nat.eq_zero_or_pos M with h | h
    · omega
    · exact absurd (hf 0 h) (by omega)
  | N + 1, 0, f, _, _ => by omega
  | N + 1, M + 1, f, hf, hi => by
    have := pigeon N M (fun i => if f i = N then f M else f i) (fun i h => by
      show (if f i = N then f M else f i) < N
      have h1 := hf i (by omega)
      have h2 := hf M (by omega)
      split
      · rename_i e
        have : f M ≠ N := fun e2 => by have := hi i M (by omega) (by omega) (e.trans e2.symm); omega
        omega
      · omega) (fun i j h1 h2 h => by
      have h : (if f i = N then f M else f i) = (if f j = N then f M else f j) := h
      split at h <;> split at h <;> rename_i e1 e2
      · exact hi i j (by omega) (by omega) (e1.trans e2.symm)
      · have := hi M j (by omega) (by omega) h; omega
      · have := hi i M (by omega) (by omega) h; omega
      · exact hi i j (by omega) (by omega) h)
    omega
theorem itoa_len7 {k : Nat} (h1 : 1000000 ≤ k) (h2 : k < 10000000) : (Lib.itoa (k : Int)).length = 7 := by
  rw [itoa_nat]
  have h3 := decDigits_len 7 k (by omega) (by omega)
  obtain ⟨⟨g1, g2, _⟩, g4, _⟩ := decDigits_num k
  have h4 := valN_lt g2
  rw [g4] at h4
  rcases Nat.lt_or_ge (Lib.decDigits k).length 7 with h | h
  · have : 10 ^ (Lib.decDigits k).length ≤ 10 ^ 6 := Nat.pow_le_pow_right (by omega) (by omega)
    omega
  · omega
theorem bnd_some (b : Bytes) (hb : b.length ≤ 1000000) : ∃ k, k < 10000000 ∧ Lib.index b (dj k) < 0 := by
  refine Classical.byContradiction fun hn => ?_
  have hall : ∀ k, k < 10000000 → ∃ i, i < b.length ∧ Lib.occAt b (dj k) i = true := fun k hk => by
    rcases Lib.index_spec b (dj k) with ⟨h1, _⟩ | ⟨i, h1, h2, h3, _⟩
    · exact absurd ⟨k, hk, by omega⟩ hn
    · refine ⟨i, ?_, h3⟩
      rcases Lib.occAt_room h3 with h | h
      · simp [dj] at h; omega
      · simp [dj] at h
  have := pigeon b.length 9000000 (fun i => if h : i < 9000000 then (hall (1000000 + i) (by omega)).choose else 0) (fun i hi => by
    show (if h : i < 9000000 then (hall (1000000 + i) (by omega)).choose else 0) < b.length
    rw [dif_pos hi]
    exact (hall (1000000 + i) (by omega)).choose_spec.1) (fun i j hi hj h => by
    have h : (if h : i < 9000000 then (hall (1000000 + i) (by omega)).choose else 0) = (if h : j < 9000000 then (hall (1000000 + j) (by omega)).choose else 0) := h
    rw [dif_pos hi, dif_pos hj] at h
    have a1 := (hall (1000000 + i) (by omega)).choose_spec.2
    have a2 := (hall (1000000 + j) (by omega)).choose_spec.2
    rw [h] at a1
    unfold Lib.occAt at a1 a2
    have p1 := List.isPrefixOf_iff_prefix.1 a1
    have p2 := List.isPrefixOf_iff_prefix.1 a2
    have hl : (dj (1000000 + i)).length = (dj (1000000 + j)).length := by
      unfold dj jn
      simp only [List.length_append]
      rw [itoa_len7 (by omega) (by omega), itoa_len7 (by omega) (by omega)]
    have e := List.IsPrefix.eq_of_length (List.prefix_of_prefix_length_le p1 p2 (by omega)) hl
    unfold dj at e
    have := jn_inj (List.append_cancel_left e)
    omega)
  omega
theorem least {p : Nat → Prop} : ∀ n, p n → ∃ k, k ≤ n ∧ p k ∧ ∀ j, j < k → ¬ p j := by
  intro n
  induction n using Nat.strongRecOn with
  | _ n ih =>
    intro hn
    rcases Classical.em (∃ j, j < n ∧ p j) with ⟨j, hj, hp⟩ | h
    · obtain ⟨k, h1, h2, h3⟩ := ih j hj hp
      exact ⟨k, by omega, h2, h3⟩
    · exact ⟨n, Nat.le_refl _, hn, fun j hj hp => h ⟨j, hj, hp⟩⟩
theorem bnd_ex (b : Bytes) (hb : b.length ≤ 1000000) : ∃ k, k < 10000000 ∧ IsBnd b k := by
  obtain ⟨n, hn, hp⟩ := bnd_some b hb
  obtain ⟨k, h1, h2, h3⟩ := least (p := fun k => Lib.index b (dj k) < 0) n hp
  exact ⟨k, by omega, h2, fun j hj => by have := h3 j hj; omega⟩

/-! ### Reports -/
def aheadL (fr : Bytes) (to : List Bytes) (at_ : Int) (n : Bytes) : List Bytes := [cMV, cCT ++ n, [], cDD ++ n, cTP, [], cSE ++ fr, cRE ++ Lib.itoa at_] ++ to.map (cRP ++ ·) ++ [cDD ++ n, cRF, []]
def tailP (n : Bytes) : Bytes := linesP [[], cDD ++ n ++ cDD]
def repB (fr : Bytes) (to : List Bytes) (at_ : Int) (b n : Bytes) : Bytes := linesP (aheadL fr to at_ n) ++ b ++ tailP n
def repOK (fr : Bytes) (to : List Bytes) (at_ : Int) (b : Bytes) : Prop := envP fr to at_ ∧ to.length ≤ 100 ∧ b.length ≤ 1000000
noncomputable instance (fr : Bytes) (to : List Bytes) (at_ : Int) (b : Bytes) : Decidable (repOK fr to at_ b) := Classical.propDecidable _
structure Wit (r fr : Bytes) (to : List Bytes) (at_ : Int) (b : Bytes) (k : Nat) : Prop where
  ok : repOK fr to at_ b
  at1 : at_ ≤ 9223372036854775807
  bnd : IsBnd b k
  eq : r = repB fr to at_ b (jn k)
def NoRep (r : Bytes) : Prop := ∀ fr to at_ b k, ¬ Wit r fr to at_ b k
theorem aheadL_len (fr : Bytes) (to : List Bytes) (at_ : Int) (n : Bytes) : (aheadL fr to at_ n).length = to.length + 11 := by simp [aheadL]
theorem mem_getD {l : List Bytes} {x : Bytes} (h : x ∈ l) : ∃ j, j < l.length ∧ l.getD j [] = x := by
  obtain ⟨j, hj, rfl⟩ := List.getElem_of_mem h
  exact ⟨j, hj, by simp [hj]⟩
theorem const_nocr {s : Bytes} (h : (s.all (· != 13)) = true) : NoCR s := fun c hc e => by
  have := List.all_eq_true.1 h c hc
  subst e; simp at this
theorem Wit.nocr {r fr : Bytes} {to : List Bytes} {at_ : Int} {b : Bytes} {k : Nat} (h : Wit r fr to at_ b k) : ∀ x, x ∈ aheadL fr to at_ (jn k) → NoCR x := by
  obtain ⟨⟨⟨e1, e2, e3, e4⟩, _, _⟩, _, _, _⟩ := h
  intro x hx
  have hj := jn_nocr k
  unfold aheadL at hx
  simp only [List.mem_append, List.mem_cons, List.not_mem_nil, or_false, List.mem_map] at hx
  rcases hx with ((rfl | rfl | rfl | rfl | rfl | rfl | rfl | rfl) | ⟨t, ht, rfl⟩) | (rfl | rfl | rfl)
  · exact const_nocr (by decide)
  · exact (const_nocr (by decide)).append hj
  · exact const_nocr (by decide)
  · exact (const_nocr (by decide)).append hj
  · exact const_nocr (by decide)
  · exact const_nocr (by decide)
  · refine (const_nocr (by decide)).append ?_
    rcases e1 with e1 | e1
    · rw [e1]; exact const_nocr (by decide)
    · exact mailbox_nocr e1
  · exact (const_nocr (by decide)).append (itoa_nocr e3)
  · exact (const_nocr (by decide)).append (mailbox_nocr (e4 t ht))
  · exact (const_nocr (by decide)).append hj
  · exact const_nocr (by decide)
  · exact const_nocr (by decide)

/-- xs are the first lines of r, rest what stands behind. -/
inductive Lns (r : Bytes) : List Bytes → Bytes → Prop
  | nil : Lns r [] r
  | snoc {xs : List Bytes} {rest x rest' : Bytes} : Lns r xs rest → Lib.cut rest crlf = (x, rest', true) → Lns r (xs ++ [x]) rest'
theorem Lns.eq {r : Bytes} {xs : List Bytes} {rest : Bytes} (h : Lns r xs rest) : r = linesP xs ++ rest := by
  induction h with
  | nil => rfl
  | snoc h hc ih => rw [ih, (cut_true hc).1, linesP_snoc]; simp
theorem Lns.le {r : Bytes} {xs : List Bytes} {rest : Bytes} (h : Lns r xs rest) : rest.length ≤ r.length := by
  have := congrArg List.length h.eq
  simp at this; omega
theorem lns_all : ∀ (l : List Bytes) (xs : List Bytes) (r t : Bytes), (∀ x, x ∈ l → NoCR x) → Lns r xs (linesP l ++ t) → Lns r (xs ++ l) t
  | [], xs, r, t, _, h => by rw [List.append_nil]; exact h
  | x :: l, xs, r, t, hn, h => by
    have := lns_all l (xs ++ [x]) r t (fun y hy => hn y (by simp [hy])) (Lns.snoc h (by
      rw [linesP_cons, List.append_assoc]
      exact cut_line (hn x (by simp))))
    rw [List.append_assoc] at this
    exact this
/-- Lines are read in one way. -/
theorem lns_fix {r : Bytes} {xs : List Bytes} {rest : Bytes} (h : Lns r xs rest) {l : List Bytes} {t : Bytes} (hn : ∀ x, x ∈ l → NoCR x) (e : r = linesP l ++ t) :
    (xs.length ≤ l.length → xs = l.take xs.length ∧ rest = linesP (l.drop xs.length) ++ t) ∧ (l.length ≤ xs.length → l = xs.take l.length) := by
  induction h with
  | nil => exact ⟨fun _ => ⟨by simp, by simpa using e⟩, fun h => by
      have : l = [] := List.eq_nil_of_length_eq_zero (by simpa using h)
      subst this; simp⟩
  | @snoc xs rest x rest' h hc ih =>
    obtain ⟨i1, i2⟩ := ih
    have key : xs.length < l.length → (xs ++ [x]) = l.take (xs.length + 1) ∧ rest' = linesP (l.drop (xs.length + 1)) ++ t := fun hl => by
      obtain ⟨e1, e2⟩ := i1 (by omega)
      rw [List.drop_eq_getElem_cons hl, linesP_cons, List.append_assoc] at e2
      rw [e2, cut_line (hn _ (List.getElem_mem hl))] at hc
      simp only [Prod.mk.injEq, and_true] at hc
      refine ⟨?_, hc.2.symm⟩
      rw [List.take_add_one, List.getElem?_eq_getElem hl, ← e1, ← hc.1]; rfl
    refine ⟨fun hl => ?_, fun hl => ?_⟩
    · rw [List.length_append, List.length_singleton] at hl ⊢
      exact key (by omega)
    · rcases Nat.lt_or_ge xs.length l.length with hlt | hge
      · have := (key hlt).1
        rw [List.length_append, List.length_singleton] at hl
        rw [this, List.take_take, Nat.min_eq_left (by omega), List.take_of_length_le (by omega)]
      · rw [List.take_append_of_le_length hge]
        exact i2 hge
theorem Wit.lns {r fr : Bytes} {to : List Bytes} {at_ : Int} {b : Bytes} {k : Nat} (h : Wit r fr to at_ b k) {xs : List Bytes} {rest : Bytes} (g : Lns r xs rest) :
    (xs.length ≤ to.length + 11 → xs = (aheadL fr to at_ (jn k)).take xs.length ∧ rest = linesP ((aheadL fr to at_ (jn k)).drop xs.length) ++ (b ++ tailP (jn k))) ∧ (to.length + 11 ≤ xs.length → aheadL fr to at_ (jn k) = xs.take (to.length + 11)) := by
  have := lns_fix g h.nocr (t := b ++ tailP (jn k)) (by rw [h.eq]; unfold repB; rw [List.append_assoc])
  rw [aheadL_len] at this
  exact this
/-- No line's end where one must be. -/
theorem lns_none {r : Bytes} {xs : List Bytes} {rest x rest' : Bytes} (g : Lns r xs rest) (hc : Lib.cut rest crlf = (x, rest', false)) (hl : ∀ fr to at_ b k, Wit r fr to at_ b k → xs.length < to.length + 11) : NoRep r := by
  intro fr to at_ b k h
  have hl := hl fr to at_ b k h
  obtain ⟨_, e⟩ := (h.lns g).1 (by omega)
  rw [List.drop_eq_getElem_cons (by rw [aheadL_len]; exact hl), linesP_cons, List.append_assoc] at e
  rw [e, cut_line (h.nocr _ (List.getElem_mem _))] at hc
  simp at hc
/-- The lines read so far are the report's. -/
theorem Wit.head {r fr : Bytes} {to : List Bytes} {at_ : Int} {b : Bytes} {k : Nat} (h : Wit r fr to at_ b k) {xs : List Bytes} {rest : Bytes} (g : Lns r xs rest) {j : Nat} (hj : j < xs.length) (hj2 : j < to.length + 11) : xs.getD j [] = (aheadL fr to at_ (jn k)).getD j [] := by
  rcases Nat.le_total xs.length (to.length + 11) with hl | hl
  · have e := ((h.lns g).1 hl).1
    conv => lhs; rw [e]
    simp [List.getD_eq_getElem?_getD, List.getElem?_take, hj]
  · have e := (h.lns g).2 hl
    rw [e]
    simp [List.getD_eq_getElem?_getD, List.getElem?_take, hj2]
theorem aheadL_at (fr : Bytes) (to : List Bytes) (at_ : Int) (n : Bytes) {j : Nat} (hj : j < to.length) : (aheadL fr to at_ n).getD (8 + j) [] = cRP ++ to.getD j [] := by
  unfold aheadL
  rw [List.append_assoc, List.getD_eq_getElem?_getD, List.getElem?_append_right (by simp), List.getElem?_append_left (by simp; omega)]
  simp [show 8 + j - 8 = j by omega, hj, List.getD_eq_getElem?_getD]
theorem aheadL_end (fr : Bytes) (to : List Bytes) (at_ : Int) (n : Bytes) : (aheadL fr to at_ n).getD (8 + to.length) [] = cDD ++ n := by
  unfold aheadL
  rw [List.getD_eq_getElem?_getD, List.getElem?_append_right (by simp; omega)]
  simp [show 8 + to.length - (to.length + 8) = 0 by omega]
/-- Behind the recipients' lines ts. -/
theorem Wit.to {r fr : Bytes} {to : List Bytes} {at_ : Int} {b : Bytes} {k : Nat} (h : Wit r fr to at_ b k) {x0 x1 x2 x3 x4 x5 x6 x7 : Bytes} {ts : List Bytes} {rest : Bytes} (g : Lns r ([x0, x1, x2, x3, x4, x5, x6, x7] ++ ts.map (cRP ++ ·)) rest) :
    x1 = cCT ++ jn k ∧ x6 = cSE ++ fr ∧ x7 = cRE ++ Lib.itoa at_ ∧ ts.length ≤ to.length ∧ ts = to.take ts.length := by
  have hl : ([x0, x1, x2, x3, x4, x5, x6, x7] ++ ts.map (cRP ++ ·)).length = 8 + ts.length := by simp; omega
  have h1 := h.head g (j := 1) (by rw [hl]; omega) (by omega)
  have h6 := h.head g (j := 6) (by rw [hl]; omega) (by omega)
  have h7 := h.head g (j := 7) (by rw [hl]; omega) (by omega)
  have ht : ∀ j, j < ts.length → ([x0, x1, x2, x3, x4, x5, x6, x7] ++ ts.map (cRP ++ ·)).getD (8 + j) [] = cRP ++ ts.getD j [] := fun j hj => by
    rw [List.getD_eq_getElem?_getD, List.getElem?_append_right (by simp)]
    simp [show 8 + j - 8 = j by omega, hj, List.getD_eq_getElem?_getD]
  have hle : ts.length ≤ to.length := by
    rcases Nat.lt_or_ge to.length ts.length with hlt | hge
    · exfalso
      have g1 := h.head g (j := 8 + to.length) (by rw [hl]; omega) (by omega)
      rw [ht _ hlt, aheadL_end] at g1
      simp at g1
    · exact hge
  refine ⟨h1, h6, h7, hle, ?_⟩
  apply List.ext_getElem
  · simp; omega
  · intro j a1 a2
    have g1 := h.head g (j := 8 + j) (by rw [hl]; omega) (by omega)
    rw [ht _ a1, aheadL_at _ _ _ _ (by omega)] at g1
    have := List.append_cancel_left g1
    simp [List.getD_eq_getElem?_getD, a1, show j < to.length by omega] at this
    simp [this]
theorem pre_RP_DD (n : Bytes) : Lib.hasPrefix (cDD ++ n) cRP = false := by
  unfold Lib.hasPrefix
  rw [Bool.eq_false_iff]
  intro h
  have h := List.isPrefixOf_iff_prefix.1 h
  obtain ⟨t, ht⟩ := h
  simp at ht
theorem hasPrefix_append (a b : Bytes) : Lib.hasPrefix (a ++ b) a = true := by
  unfold Lib.hasPrefix
  rw [List.isPrefixOf_iff_prefix]
  exact List.prefix_append a b
theorem trimPrefix_append (a b : Bytes) : Lib.trimPrefix (a ++ b) a = b := by
  unfold Lib.trimPrefix
  rw [if_pos (hasPrefix_append a b), List.drop_left]
theorem hasPrefix_eq {x a : Bytes} (h : Lib.hasPrefix x a = true) : x = a ++ Lib.trimPrefix x a := by
  have h0 := h
  unfold Lib.hasPrefix at h
  obtain ⟨t, ht⟩ := List.isPrefixOf_iff_prefix.1 h
  unfold Lib.trimPrefix
  rw [if_pos h0, ← ht, List.drop_left]
/-- The line behind the recipients' is another one. -/
theorem Wit.all {r fr : Bytes} {to : List Bytes} {at_ : Int} {b : Bytes} {k : Nat} (h : Wit r fr to at_ b k) {x0 x1 x2 x3 x4 x5 x6 x7 : Bytes} {ts : List Bytes} {rest x rest' : Bytes} (g : Lns r ([x0, x1, x2, x3, x4, x5, x6, x7] ++ ts.map (cRP ++ ·)) rest)
    (hc : Lib.cut rest crlf = (x, rest', true)) (hx : Lib.hasPrefix x cRP = false ∨ 100 < ts.length) : ts = to := by
  obtain ⟨_, _, _, h4, h5⟩ := h.to g
  rcases hx with hx | hx
  · rcases Nat.lt_or_ge ts.length to.length with hlt | hge
    · exfalso
      have g2 := Lns.snoc g hc
      have g1 := h.head g2 (j := 8 + ts.length) (by simp; omega) (by omega)
      rw [aheadL_at _ _ _ _ hlt, List.getD_eq_getElem?_getD, List.getElem?_append_right (by simp; omega)] at g1
      simp [show 8 + ts.length - (ts.length + 8) = 0 by omega] at g1
      rw [g1] at hx
      have := hasPrefix_append cRP (to.getD ts.length [])
      rw [List.getD_eq_getElem?_getD] at this
      simp [Lib.hasPrefix] at hx
    · rw [h5, List.take_of_length_le hge]
  · have := h.ok.2.1; omega
theorem repB_mid (fr : Bytes) (to : List Bytes) (at_ : Int) (b n : Bytes) : ((repB fr to at_ b n).drop (linesP (aheadL fr to at_ n)).length).take ((repB fr to at_ b n).length - (tailP n).length - (linesP (aheadL fr to at_ n)).length) = b := by
  unfold repB
  rw [List.append_assoc, List.drop_left]
  simp only [List.length_append]
  rw [show (linesP (aheadL fr to at_ n)).length + (b.length + (tailP n).length) - (tailP n).length - (linesP (aheadL fr to at_ n)).length = b.length by omega, List.take_left]
/-- Reports are read in one way. -/
theorem wit_unique {r fr : Bytes} {to : List Bytes} {at_ : Int} {b : Bytes} {k : Nat} (h : Wit r fr to at_ b k) {fr' : Bytes} {to' : List Bytes} {at' : Int} {b' : Bytes} {k' : Nat} (h' : Wit r fr' to' at' b' k') : fr = fr' ∧ to = to' ∧ at_ = at' ∧ b = b' := by
  have key : ∀ {fr : Bytes} {to : List Bytes} {at_ : Int} {b : Bytes} {k : Nat}, Wit r fr to at_ b k → Lns r ([cMV, cCT ++ jn k, [], cDD ++ jn k, cTP, [], cSE ++ fr, cRE ++ Lib.itoa at_] ++ to.map (cRP ++ ·)) (linesP [cDD ++ jn k, cRF, []] ++ (b ++ tailP (jn k))) := fun {fr to at_ b k} h => by
    refine lns_all _ [] r _ (fun x hx => h.nocr x (by unfold aheadL; rw [List.mem_append]; exact .inl hx)) ?_
    have : r = linesP ([cMV, cCT ++ jn k, [], cDD ++ jn k, cTP, [], cSE ++ fr, cRE ++ Lib.itoa at_] ++ to.map (cRP ++ ·)) ++ (linesP [cDD ++ jn k, cRF, []] ++ (b ++ tailP (jn k))) := by
      rw [h.eq]; unfold repB aheadL; rw [linesP_append]; simp only [List.append_assoc]
    exact Eq.mp (congrArg (Lns r []) this) .nil
  obtain ⟨a1, a2, a3, a4, a5⟩ := h'.to (key h)
  obtain ⟨c1, c2, c3, c4, c5⟩ := h.to (key h')
  have e1 := List.append_cancel_left a2
  have e2 : to = to' := by rw [a5, List.take_of_length_le c4]
  have e3 := itoa_inj h.ok.1.2.2.1 h'.ok.1.2.2.1 (List.append_cancel_left a3)
  have e4 := List.append_cancel_left a1
  refine ⟨e1, e2, e3, ?_⟩
  have m1 := repB_mid fr to at_ b (jn k)
  have m2 := repB_mid fr' to' at' b' (jn k')
  rw [← h.eq] at m1
  rw [← h'.eq] at m2
  subst e1; subst e2; subst e3
  rw [← e4] at m2
  exact m1.symm.trans m2
/-- The error's number where there is no report. -/
noncomputable def repErr (fr : Bytes) (to : List Bytes) (at_ : Int) : Int := if envP fr to at_ then 2 else 110
theorem linesP_bound : ∀ (ls : List Bytes) (N : Nat), (∀ x, x ∈ ls → x.length ≤ N) → (linesP ls).length ≤ ls.length * (N + 2)
  | [], N, _ => by simp [linesP]
  | x :: ls, N, h => by
    have h1 := linesP_bound ls N (fun y hy => h y (by simp [hy]))
    have h2 := h x (by simp)
    rw [linesP_cons]
    simp only [List.length_append, List.length_cons, List.length_nil, Nat.succ_mul]
    omega
theorem ahead_bound {fr : Bytes} {to : List Bytes} {at_ : Int} {n : Bytes} (hf : fr.length ≤ 1000000) (ht : ∀ x, x ∈ to → x.length ≤ 1000000) (hn : n.length ≤ 1000000) (hl : to.length ≤ 110) (h0 : -9223372036854775808 ≤ at_) (h1 : at_ ≤ 9223372036854775807) : (linesP (aheadL fr to at_ n)).length ≤ 130000000 := by
  have hi := itoa_len at_ h0 h1
  have := linesP_bound (aheadL fr to at_ n) 1000100 (fun x hx => by
    unfold aheadL at hx
    simp only [List.mem_append, List.mem_cons, List.not_mem_nil, or_false, List.mem_map] at hx
    rcases hx with ((rfl | rfl | rfl | rfl | rfl | rfl | rfl | rfl) | ⟨t, ht2, rfl⟩) | (rfl | rfl | rfl)
    all_goals first | (simp; done) | skip
    all_goals first | (have := ht t ht2; simp; omega) | (simp; omega))
  rw [aheadL_len] at this
  have h2 : (to.length + 11) * (1000100 + 2) ≤ 121 * 1000102 := Nat.mul_le_mul_right _ (by omega)
  omega
theorem map_snoc {α β : Type} (A : List β) (f : α → β) (ls : List α) (d : α) {k : Nat} (h : k < ls.length) : (A ++ (ls.take k).map f) ++ [f (ls.getD k d)] = A ++ (ls.take (k + 1)).map f := by
  rw [List.take_add_one, List.getElem?_eq_getElem h, List.append_assoc, List.map_append, List.getD_eq_getElem?_getD, List.getElem?_eq_getElem h]
  rfl
theorem ownS_cast {w : World} {lo : Nat} {v : Value} {l l' : List Bytes} (h : OwnS w lo v l) (e : l = l') : OwnS w lo v l' := e ▸ h
theorem ownB_cast {w : World} {lo : Nat} {v : Value} {l l' : Bytes} (h : OwnB w lo v l) (e : l = l') : OwnB w lo v l' := e ▸ h
theorem ownR_cast {w : World} {lo : Nat} {T : TypeId} {v : Value} {l l' : Bytes} (h : OwnR w lo T v l) (e : l = l') : OwnR w lo T v l' := e ▸ h
theorem bs_cast {w : World} {lo hi : Nat} {v : Value} {l l' : Bytes} (h : Bs w lo hi v l) (e : l = l') : Bs w lo hi v l' := e ▸ h
theorem ss_cast {w : World} {lo hi : Nat} {v : Value} {l l' : List Bytes} (h : Ss w lo hi v l) (e : l = l') : Ss w lo hi v l' := e ▸ h
end Go.Proofs.YtnjkdnbabogcjaaDoor
