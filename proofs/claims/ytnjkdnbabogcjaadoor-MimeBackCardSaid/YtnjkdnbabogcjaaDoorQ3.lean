/- Decimal numbers; parts put one behind the other: my own text. -/
import Derived.Test.YtnjkdnbabogcjaaDoorQ2
import Derived.Lib.ItoaMem
set_option linter.unusedVariables false
set_option linter.unusedSimpArgs false
namespace Go.Proofs.YtnjkdnbabogcjaaDoor
open Go Go.RowKit Go.Kw

def valF : Nat → Bytes → Nat
  | a, [] => a
  | a, c :: r => valF (10 * a + (c.toNat - 48)) r
def valN (s : Bytes) : Nat := valF 0 s
def AllD (s : Bytes) : Prop := ∀ j, j < s.length → 48 ≤ bAt s j ∧ bAt s j ≤ 57
theorem valF_snoc : ∀ (s : Bytes) (a : Nat) (c : UInt8), valF a (s ++ [c]) = 10 * valF a s + (c.toNat - 48)
  | [], a, c => rfl
  | d :: s, a, c => valF_snoc s _ c
theorem valF_ge : ∀ (s : Bytes) (a : Nat), a ≤ valF a s
  | [], a => Nat.le_refl _
  | d :: s, a => Nat.le_trans (by omega) (valF_ge s _)
theorem valF_append : ∀ (s t : Bytes) (a : Nat), valF a (s ++ t) = valF (valF a s) t
  | [], t, a => rfl
  | d :: s, t, a => valF_append s t _
theorem take_succ_bAt {s : Bytes} {i : Nat} (h : i < s.length) : ∃ c : UInt8, s.take (i + 1) = s.take i ++ [c] ∧ (c.toNat : Int) = bAt s i := by
  refine ⟨s[i], ?_, ?_⟩
  · rw [List.take_add_one, List.getElem?_eq_getElem h]; rfl
  · unfold bAt; rw [List.getD_eq_getElem?_getD, List.getElem?_eq_getElem h]; rfl
theorem valN_take {s : Bytes} {i : Nat} (h : i < s.length) (hd : 48 ≤ bAt s i) : ((valN (s.take (i + 1)) : Nat) : Int) = 10 * (valN (s.take i) : Int) + (bAt s i - 48) := by
  obtain ⟨c, h1, h2⟩ := take_succ_bAt h
  unfold valN
  rw [h1, valF_snoc]
  have := valF_ge (s.take i) 0
  omega
theorem valN_take_le {s : Bytes} (i : Nat) : valN (s.take i) ≤ valN s := by
  unfold valN
  conv => rhs; rw [← List.take_append_drop i s]
  rw [valF_append]
  exact valF_ge _ _
theorem valF_lt : ∀ (s : Bytes) (a : Nat), (∀ c ∈ s, c.toNat ≤ 57) → valF a s < (a + 1) * 10 ^ s.length
  | [], a, _ => by
    show a < (a + 1) * 10 ^ 0
    rw [Nat.pow_zero, Nat.mul_one]; omega
  | d :: s, a, h => by
    have h1 := valF_lt s (10 * a + (d.toNat - 48)) (fun c hc => h c (by simp [hc]))
    have h2 := h d (by simp)
    show valF (10 * a + (d.toNat - 48)) s < (a + 1) * 10 ^ (s.length + 1)
    refine Nat.lt_of_lt_of_le h1 ?_
    rw [Nat.pow_succ, Nat.mul_comm (10 ^ s.length) 10, ← Nat.mul_assoc]
    exact Nat.mul_le_mul_right _ (by omega)
theorem AllD.mem {s : Bytes} (h : AllD s) {c : UInt8} (hc : c ∈ s) : 48 ≤ c.toNat ∧ c.toNat ≤ 57 := by
  obtain ⟨j, hj, rfl⟩ := List.getElem_of_mem hc
  have := h j hj
  unfold bAt at this
  rw [List.getD_eq_getElem?_getD, List.getElem?_eq_getElem hj] at this
  simp at this
  omega
theorem AllD.of_mem {s : Bytes} (h : ∀ c, c ∈ s → 48 ≤ c.toNat ∧ c.toNat ≤ 57) : AllD s := by
  intro j hj
  have := h s[j] (List.getElem_mem hj)
  unfold bAt
  rw [List.getD_eq_getElem?_getD, List.getElem?_eq_getElem hj]
  simp; omega
theorem AllD.take {s : Bytes} {i : Nat} (h : ∀ j, j < i → 48 ≤ bAt s j ∧ bAt s j ≤ 57) : AllD (s.take i) := fun j hj => by
  have h1 : j < i := by simp at hj; omega
  rw [bAt_take h1]; exact h j h1
theorem valN_lt {s : Bytes} (h : AllD s) : valN s < 10 ^ s.length := by
  have := valF_lt s 0 (fun c hc => (h.mem hc).2)
  rw [Nat.zero_add, Nat.one_mul] at this
  exact this
/-- Decimal digits without noughts ahead. -/
def numS (s : Bytes) : Prop := s ≠ [] ∧ AllD s ∧ (bAt s 0 = 48 → s.length = 1)
theorem decDigits_num (n : Nat) : numS (Lib.decDigits n) ∧ valN (Lib.decDigits n) = n ∧ (n ≠ 0 → bAt (Lib.decDigits n) 0 ≠ 48) := by
  induction n using Nat.strongRecOn with
  | _ n ih =>
    rw [Lib.decDigits]
    by_cases h : n < 10
    · rw [dif_pos h]
      have e : (UInt8.ofNat (48 + n)).toNat = 48 + n := by simp; omega
      refine ⟨⟨by simp, AllD.of_mem (fun c hc => ?_), fun _ => rfl⟩, ?_, fun h0 => ?_⟩
      · rw [List.mem_singleton.1 hc]; omega
      · show 10 * 0 + ((UInt8.ofNat (48 + n)).toNat - 48) = n; omega
      · show ((UInt8.ofNat (48 + n)).toNat : Int) ≠ 48; omega
    · rw [dif_neg h]
      obtain ⟨⟨h1, h2, h3⟩, h4, h5⟩ := ih (n / 10) (by omega)
      have e : (UInt8.ofNat (48 + n % 10)).toNat = 48 + n % 10 := by simp; omega
      have hp := List.length_pos_iff.2 h1
      have h0 : bAt (Lib.decDigits (n / 10) ++ [UInt8.ofNat (48 + n % 10)]) 0 ≠ 48 := by
        have := h5 (by omega)
        unfold bAt at this ⊢
        rwa [List.getD_eq_getElem?_getD, List.getElem?_append_left hp, ← List.getD_eq_getElem?_getD]
      refine ⟨⟨by simp, AllD.of_mem (fun c hc => ?_), fun h => absurd h h0⟩, ?_, fun _ => h0⟩
      · rcases List.mem_append.1 hc with hc | hc
        · exact h2.mem hc
        · rw [List.mem_singleton.1 hc]; omega
      · unfold valN at h4 ⊢
        rw [valF_snoc, h4]; omega
theorem decDigits_val : ∀ (k : Nat) (s : Bytes), s.length = k → numS s → Lib.decDigits (valN s) = s := by
  intro k
  induction k using Nat.strongRecOn with
  | _ k ih =>
    rintro s hk ⟨h1, h2, h3⟩
    obtain ⟨r, c, rfl⟩ : ∃ r c, s = r ++ [c] := ⟨s.dropLast, s.getLast h1, (List.dropLast_concat_getLast h1).symm⟩
    have hc := h2.mem (c := c) (by simp)
    have ec : UInt8.ofNat (48 + (c.toNat - 48)) = c := by apply UInt8.toNat_inj.1; simp; omega
    by_cases hr : r = []
    · subst hr
      show Lib.decDigits (10 * 0 + (c.toNat - 48)) = [c]
      rw [Lib.decDigits, dif_pos (by omega), show 10 * 0 + (c.toNat - 48) = c.toNat - 48 by omega, ec]
    · have hp := List.length_pos_iff.2 hr
      have e0 : bAt (r ++ [c]) 0 = bAt r 0 := by
        unfold bAt
        rw [List.getD_eq_getElem?_getD, List.getElem?_append_left hp, ← List.getD_eq_getElem?_getD]
      have h0 : bAt r 0 ≠ 48 := fun h => by
        have := h3 (e0.trans h); rw [List.length_append, List.length_singleton] at this; omega
      have hn : numS r := ⟨hr, AllD.of_mem (fun c hc => h2.mem (by simp [hc])), fun h => absurd h h0⟩
      have ihr := ih r.length (by simp at hk; omega) r rfl hn
      have hv : 1 ≤ valN r := by
        rcases Nat.eq_zero_or_pos (valN r) with h | h
        · exfalso
          rw [h] at ihr
          rw [← ihr] at h0
          exact h0 (by rw [Lib.decDigits, dif_pos (by omega)]; rfl)
        · exact h
      unfold valN
      rw [valF_snoc]
      show Lib.decDigits (10 * valN r + (c.toNat - 48)) = _
      rw [Lib.decDigits, dif_neg (by omega), show (10 * valN r + (c.toNat - 48)) / 10 = valN r by omega, ihr, show (10 * valN r + (c.toNat - 48)) % 10 = c.toNat - 48 by omega, ec]
theorem decDigits_of {s : Bytes} (h : numS s) : Lib.decDigits (valN s) = s := decDigits_val _ s rfl h
theorem decDigits_len : ∀ (k n : Nat), 1 ≤ k → n < 10 ^ k → (Lib.decDigits n).length ≤ k := by
  intro k
  induction k with
  | zero => intro n h; omega
  | succ k ih =>
    intro n _ h
    rw [Lib.decDigits]
    by_cases hn : n < 10
    · rw [dif_pos hn]; simp
    · rw [dif_neg hn]
      have hk : 1 ≤ k := by
        rcases Nat.eq_zero_or_pos k with hk | hk
        · subst hk; simp at h; omega
        · exact hk
      have := ih (n / 10) hk (by rw [Nat.pow_succ] at h; omega)
      simp; omega
theorem itoa_nat (n : Nat) : Lib.itoa (n : Int) = Lib.decDigits n := Lib.itoa_nonneg n

theorem valN_small {b : Bytes} {k : Nat} (h : ∀ j, j < k → 48 ≤ bAt b j ∧ bAt b j ≤ 57) (hk : k ≤ 8) : valN (b.take k) < 100000000 := by
  have h1 := valN_lt (AllD.take h)
  have h2 : 10 ^ (b.take k).length ≤ 10 ^ 8 := Nat.pow_le_pow_right (by omega) (by rw [List.length_take]; omega)
  exact Nat.lt_of_lt_of_le h1 h2

/-! ### Parts -/
def put1 (x : Bytes) : Bytes := Lib.decDigits x.length ++ (58 :: (x ++ [44]))
def putL (ps : List Bytes) : Bytes := (ps.map put1).flatten
theorem putL_nil : putL [] = [] := rfl
theorem putL_cons (p : Bytes) (ps : List Bytes) : putL (p :: ps) = put1 p ++ putL ps := rfl
theorem putL_append (ps qs : List Bytes) : putL (ps ++ qs) = putL ps ++ putL qs := by simp [putL]
theorem putL_snoc (ps : List Bytes) (p : Bytes) : putL (ps ++ [p]) = putL ps ++ put1 p := by rw [putL_append]; simp [putL]
/-- x stands at the beginning, as a part; r behind it. -/
def CutR (b x r : Bytes) : Prop := x.length ≤ 1000000 ∧ b = put1 x ++ r
structure CutAt (b : Bytes) (i n : Nat) : Prop where
  h1 : 1 ≤ i
  h8 : i ≤ 8
  hl : i + 1 + n < b.length
  hd : ∀ j, j < i → 48 ≤ bAt b j ∧ bAt b j ≤ 57
  hc : bAt b i = 58
  h0 : bAt b 0 = 48 → i = 1
  hn : valN (b.take i) = n
  hm : n ≤ 1000000
  hk : bAt b (i + 1 + n) = 44
theorem bAt_get {s : Bytes} {j : Nat} (h : j < s.length) : bAt s j = (s[j].toNat : Int) := by
  unfold bAt; rw [List.getD_eq_getElem?_getD, List.getElem?_eq_getElem h]; rfl
theorem bAt_left {s t : Bytes} {j : Nat} (h : j < s.length) : bAt (s ++ t) j = bAt s j := by
  unfold bAt; rw [List.getD_eq_getElem?_getD, List.getElem?_append_left h, ← List.getD_eq_getElem?_getD]
theorem bAt_right {s t : Bytes} {j : Nat} (h : s.length ≤ j) : bAt (s ++ t) j = bAt t (j - s.length) := by
  unfold bAt; rw [List.getD_eq_getElem?_getD, List.getElem?_append_right h, ← List.getD_eq_getElem?_getD]
theorem eq_byte {c : UInt8} {k : Nat} (hk : k < 256) (h : (c.toNat : Int) = k) : c = UInt8.ofNat k := by
  apply UInt8.toNat_inj.1
  simp
  omega
theorem drop_bAt {s : Bytes} {j : Nat} {k : Nat} (hk : k < 256) (h : j < s.length) (hb : bAt s j = k) : s.drop j = UInt8.ofNat k :: s.drop (j + 1) := by
  rw [List.drop_eq_getElem_cons h]
  rw [bAt_get h] at hb
  rw [eq_byte hk hb]
theorem CutAt.cut {b : Bytes} {i n : Nat} (h : CutAt b i n) : CutR b ((b.drop (i + 1)).take n) (b.drop (i + n + 2)) := by
  have hi : i < b.length := by have := h.hl; omega
  have hx : ((b.drop (i + 1)).take n).length = n := by have := h.hl; simp; omega
  have hs : numS (b.take i) := by
    refine ⟨fun e => ?_, AllD.take h.hd, fun e => ?_⟩
    · have := congrArg List.length e; rw [List.length_take, List.length_nil] at this; have := h.h1; omega
    · rw [bAt_take (by have := h.h1; omega)] at e
      have := h.h0 e; simp; omega
  refine ⟨by rw [hx]; exact h.hm, ?_⟩
  unfold put1
  rw [hx, ← h.hn, decDigits_of hs, h.hn]
  have e1 := drop_bAt (k := 58) (by omega) hi h.hc
  have e2 := drop_bAt (k := 44) (by omega) h.hl h.hk
  conv => lhs; rw [← List.take_append_drop i b, e1, ← List.take_append_drop n (b.drop (i + 1)), List.drop_drop, e2]
  simp [show i + n + 2 = i + 1 + n + 1 by omega]
theorem cutAt_of {b x r : Bytes} (h : CutR b x r) : ∃ i, CutAt b i x.length ∧ (b.drop (i + 1)).take x.length = x ∧ b.drop (i + x.length + 2) = r := by
  obtain ⟨hm, rfl⟩ := h
  obtain ⟨⟨h1, h2, h3⟩, h4, h5⟩ := decDigits_num x.length
  have hp := List.length_pos_iff.2 h1
  have h8 := decDigits_len 8 x.length (by omega) (by omega)
  refine ⟨(Lib.decDigits x.length).length, ⟨hp, h8, ?_, fun j hj => ?_, ?_, fun h => ?_, ?_, hm, ?_⟩, ?_, ?_⟩
  · unfold put1; simp; omega
  · unfold put1
    rw [List.append_assoc, bAt_left hj]; exact h2 j hj
  · unfold put1
    rw [List.append_assoc, bAt_right (Nat.le_refl _), Nat.sub_self]; rfl
  · unfold put1 at h
    rw [List.append_assoc, bAt_left hp] at h
    exact h3 h
  · unfold put1
    rw [List.append_assoc, List.take_left]; exact h4
  · unfold put1
    rw [List.append_assoc, bAt_right (by omega), show (Lib.decDigits x.length).length + 1 + x.length - (Lib.decDigits x.length).length = x.length + 1 by omega]
    show bAt (x ++ [44] ++ r) x.length = 44
    rw [List.append_assoc, bAt_right (Nat.le_refl _), Nat.sub_self]; rfl
  · unfold put1
    rw [List.append_assoc, List.drop_append, List.drop_eq_nil_of_le (by omega), show (Lib.decDigits x.length).length + 1 - (Lib.decDigits x.length).length = 1 by omega]
    simp
  · unfold put1
    rw [List.append_assoc, List.drop_append, List.drop_eq_nil_of_le (by omega), show (Lib.decDigits x.length).length + x.length + 2 - (Lib.decDigits x.length).length = x.length + 2 by omega]
    show List.drop (x.length + 1) (x ++ [44] ++ r) = r
    rw [List.append_assoc, List.drop_append, List.drop_eq_nil_of_le (by omega), show x.length + 1 - x.length = 1 by omega]
    simp
theorem CutAt.unique {b : Bytes} {i n i' n' : Nat} (h : CutAt b i n) (h' : CutAt b i' n') : i = i' ∧ n = n' := by
  have e : i = i' := by
    rcases Nat.lt_trichotomy i i' with g | g | g
    · have := h'.hd i g; have := h.hc; omega
    · exact g
    · have := h.hd i' g; have := h'.hc; omega
  subst e
  exact ⟨rfl, h.hn.symm.trans h'.hn⟩
theorem CutAt.first {b : Bytes} {i i0 n0 : Nat} (hf : ∀ j, j < i → bAt b j ≠ 58) (hc : bAt b i = 58) (a : CutAt b i0 n0) : i0 = i := by
  rcases Nat.lt_trichotomy i i0 with g | g | g
  · have := a.hd i g; omega
  · exact g.symm
  · exact absurd a.hc (hf i0 g)
theorem CutR.unique {b x r x' r' : Bytes} (h : CutR b x r) (h' : CutR b x' r') : x = x' ∧ r = r' := by
  obtain ⟨i, a, a1, a2⟩ := cutAt_of h
  obtain ⟨j, c, c1, c2⟩ := cutAt_of h'
  obtain ⟨e1, e2⟩ := a.unique c
  subst e1
  rw [e2] at a1 a2
  exact ⟨a1.symm.trans c1, a2.symm.trans c2⟩
theorem put1_ne (x : Bytes) : put1 x ≠ [] := by unfold put1; simp
theorem putL_eq_nil {ps : List Bytes} (h : putL ps = []) : ps = [] := by
  cases ps with
  | nil => rfl
  | cons p ps => rw [putL_cons] at h; simp [put1_ne] at h
def Short (ps : List Bytes) : Prop := ∀ p, p ∈ ps → p.length ≤ 1000000
/-- What is parsed so far is the beginning of what was put. -/
theorem putL_prefix : ∀ (xs ps : List Bytes) (rest : Bytes), Short xs → Short ps → putL xs ++ rest = putL ps → ∃ qs, ps = xs ++ qs ∧ rest = putL qs
  | [], ps, rest, _, _, h => ⟨ps, rfl, h⟩
  | x :: xs, ps, rest, hx, hp, h => by
    cases ps with
    | nil => rw [putL_cons, putL_nil] at h; simp [put1_ne] at h
    | cons p ps =>
      rw [putL_cons, putL_cons, List.append_assoc] at h
      have c1 : CutR (put1 x ++ (putL xs ++ rest)) x (putL xs ++ rest) := ⟨hx x (by simp), rfl⟩
      have c2 : CutR (put1 x ++ (putL xs ++ rest)) p (putL ps) := ⟨hp p (by simp), h⟩
      obtain ⟨e1, e2⟩ := c1.unique c2
      obtain ⟨qs, e3, e4⟩ := putL_prefix xs ps rest (fun q hq => hx q (by simp [hq])) (fun q hq => hp q (by simp [hq])) e2
      exact ⟨qs, by rw [e1, e3]; rfl, e4⟩
theorem putL_inj {ps qs : List Bytes} (hp : Short ps) (hq : Short qs) (h : putL ps = putL qs) : ps = qs := by
  obtain ⟨r, e1, e2⟩ := putL_prefix ps qs [] hp hq (by rw [List.append_nil]; exact h)
  rw [putL_eq_nil e2.symm] at e1
  rw [e1, List.append_nil]
theorem itoa_inj {a b : Int} (ha : 0 ≤ a) (hb : 0 ≤ b) (h : Lib.itoa a = Lib.itoa b) : a = b := by
  obtain ⟨m, rfl⟩ := Int.eq_ofNat_of_zero_le ha
  obtain ⟨n, rfl⟩ := Int.eq_ofNat_of_zero_le hb
  rw [itoa_nat, itoa_nat] at h
  have h1 := (decDigits_num m).2.1
  have h2 := (decDigits_num n).2.1
  rw [h] at h1
  omega
end Go.Proofs.YtnjkdnbabogcjaaDoor
