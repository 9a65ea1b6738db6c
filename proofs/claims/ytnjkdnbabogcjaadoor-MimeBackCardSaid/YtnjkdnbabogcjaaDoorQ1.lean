/- What the functions on addresses answer; plain: my own text. -/
import Derived.Test.YtnjkdnbabogcjaaDoorL0
set_option linter.unusedVariables false
set_option linter.unusedSimpArgs false
namespace Go.Proofs.YtnjkdnbabogcjaaDoor
open Go Go.RowKit Go.Kw

def letterP (c : Int) : Prop := (97 ≤ c ∧ c ≤ 122) ∨ (65 ≤ c ∧ c ≤ 90) ∨ (48 ≤ c ∧ c ≤ 57)
def markP (c : Int) : Prop := c = 33 ∨ c = 35 ∨ c = 36 ∨ c = 37 ∨ c = 38 ∨ c = 39 ∨ c = 42 ∨ c = 43 ∨ c = 45 ∨ c = 47 ∨ c = 61 ∨ c = 63 ∨ c = 94 ∨ c = 95 ∨ c = 123 ∨ c = 124 ∨ c = 125 ∨ c = 126 ∨ c = 96
instance (c : Int) : Decidable (letterP c) := by unfold letterP; infer_instance
instance (c : Int) : Decidable (markP c) := by unfold markP; infer_instance
def kindI (c : Int) : Int := if letterP c then 2 else if markP c then 1 else 0
theorem kindI_2 (c : Int) : kindI c = 2 ↔ letterP c := by unfold kindI; split <;> simp_all; split <;> simp
theorem kindI_0 (c : Int) : kindI c = 0 ↔ ¬(letterP c ∨ markP c) := by unfold kindI; split <;> simp_all
abbrev marks : Bytes := [33, 35, 36, 37, 38, 39, 42, 43, 45, 47, 61, 63, 94, 95, 123, 124, 125, 126, 96]
theorem marks_ok (u : UInt8) : 0 ≤ Lib.indexByte marks u ↔ markP u.toNat := by
  have e : ∀ x : UInt8, (x == u) = decide ((u.toNat : Int) = x.toNat) := fun x => by
    rw [Bool.eq_iff_iff]
    simp only [beq_iff_eq, decide_eq_true_eq]
    exact ⟨fun h => by rw [h], fun h => by apply UInt8.toNat_inj.1; omega⟩
  rcases indexByte_cases marks u with ⟨h1, h2⟩ | ⟨i, h1, h2, h3, h4⟩
  · rw [h1]
    refine ⟨fun h => by omega, fun h => ?_⟩
    exfalso
    unfold markP at h
    rcases h with h | h | h | h | h | h | h | h | h | h | h | h | h | h | h | h | h | h | h
    · exact h2 0 (by decide) (by rw [h]; rfl)
    · exact h2 1 (by decide) (by rw [h]; rfl)
    · exact h2 2 (by decide) (by rw [h]; rfl)
    · exact h2 3 (by decide) (by rw [h]; rfl)
    · exact h2 4 (by decide) (by rw [h]; rfl)
    · exact h2 5 (by decide) (by rw [h]; rfl)
    · exact h2 6 (by decide) (by rw [h]; rfl)
    · exact h2 7 (by decide) (by rw [h]; rfl)
    · exact h2 8 (by decide) (by rw [h]; rfl)
    · exact h2 9 (by decide) (by rw [h]; rfl)
    · exact h2 10 (by decide) (by rw [h]; rfl)
    · exact h2 11 (by decide) (by rw [h]; rfl)
    · exact h2 12 (by decide) (by rw [h]; rfl)
    · exact h2 13 (by decide) (by rw [h]; rfl)
    · exact h2 14 (by decide) (by rw [h]; rfl)
    · exact h2 15 (by decide) (by rw [h]; rfl)
    · exact h2 16 (by decide) (by rw [h]; rfl)
    · exact h2 17 (by decide) (by rw [h]; rfl)
    · exact h2 18 (by decide) (by rw [h]; rfl)
  · rw [h2]
    refine ⟨fun _ => ?_, fun _ => by omega⟩
    have hi : i < 19 := h1
    rw [← h3]
    unfold markP
    rcases i with _ | _ | _ | _ | _ | _ | _ | _ | _ | _ | _ | _ | _ | _ | _ | _ | _ | _ | _ | i
    all_goals first | (simp [bAt, marks]; done) | omega

/-- A part of a domain. -/
def labelP (s : Bytes) : Prop := s ≠ [] ∧ s.length ≤ 63 ∧ bAt s 0 ≠ 45 ∧ bAt s (s.length - 1) ≠ 45 ∧ ∀ j, j < s.length → letterP (bAt s j) ∨ bAt s j = 45
noncomputable instance (s : Bytes) : Decidable (labelP s) := Classical.propDecidable _
/-- What stands between points. -/
def parts : Bytes → List Bytes
  | [] => [[]]
  | c :: r => if c = 46 then [] :: parts r else match parts r with | p :: ps => (c :: p) :: ps | [] => [[c]]
theorem parts_ne (s : Bytes) : parts s ≠ [] := by
  cases s with
  | nil => simp [parts]
  | cons c r =>
    unfold parts
    split
    · simp
    · split <;> simp
theorem bAt_46 {c : UInt8} : (c.toNat : Int) = 46 ↔ c = 46 :=
  ⟨fun h => by apply UInt8.toNat_inj.1; simp; omega, fun h => by subst h; rfl⟩
theorem parts_none : ∀ (s : Bytes), (∀ j, j < s.length → bAt s j ≠ 46) → parts s = [s]
  | [], _ => rfl
  | c :: r, h => by
    have h0 : c ≠ 46 := fun e => h 0 (by simp) (bAt_46.2 e)
    unfold parts
    rw [if_neg h0, parts_none r (fun j hj => h (j + 1) (by simp; omega))]
theorem parts_at : ∀ (s : Bytes) (i : Nat), i < s.length → (∀ j, j < i → bAt s j ≠ 46) → bAt s i = 46 → parts s = s.take i :: parts (s.drop (i + 1))
  | [], i, hi, _, _ => by simp at hi
  | c :: r, 0, _, _, he => by
    have : c = 46 := bAt_46.1 he
    conv => lhs; unfold parts
    rw [if_pos this]
    simp
  | c :: r, i + 1, hi, hb, he => by
    have h0 : c ≠ 46 := fun e => hb 0 (by omega) (bAt_46.2 e)
    have ih := parts_at r i (by simpa using hi) (fun j hj => hb (j + 1) (by omega)) he
    conv => lhs; unfold parts
    rw [if_neg h0, ih]
    simp
def domainP (s : Bytes) : Prop := s.length ≤ 255 ∧ ∀ p, p ∈ parts s → labelP p
noncomputable instance (s : Bytes) : Decidable (domainP s) := Classical.propDecidable _
def wordP (p : Bytes) : Prop := p ≠ [] ∧ ∀ j, j < p.length → letterP (bAt p j) ∨ markP (bAt p j)
def mailboxP (s : Bytes) : Prop := 1 ≤ lastB s 64 ∧ lastB s 64 ≤ 64 ∧ domainP (s.drop ((lastB s 64).toNat + 1)) ∧ ∀ p, p ∈ parts (s.take (lastB s 64).toNat) → wordP p
noncomputable instance (s : Bytes) : Decidable (mailboxP s) := Classical.propDecidable _
theorem parts_mem : ∀ (s p : Bytes), p ∈ parts s → p.length ≤ s.length
  | [], p, h => by simp [parts] at h; subst h; simp
  | c :: r, p, h => by
    unfold parts at h
    split at h
    · rcases List.mem_cons.1 h with rfl | h
      · simp
      · have := parts_mem r p h; simp; omega
    · have ih := parts_mem r
      split at h
      · rename_i q qs hq
        rcases List.mem_cons.1 h with rfl | h
        · have := ih q (by rw [hq]; simp); simp; omega
        · have := ih p (by rw [hq]; simp [h]); simp; omega
      · simp at h; subst h; simp
theorem parts_count : ∀ (s : Bytes), (parts s).length ≤ s.length + 1
  | [] => by simp [parts]
  | c :: r => by
    have ih := parts_count r
    unfold parts
    split
    · simp; omega
    · split
      · rename_i q qs hq; rw [hq] at ih; simp at ih ⊢; omega
      · simp
theorem bAt_drop (s : Bytes) (a j : Nat) : bAt (s.drop a) j = bAt s (a + j) := by unfold bAt; simp [List.getD_eq_getElem?_getD]
theorem bAt_take {s : Bytes} {b j : Nat} (h : j < b) : bAt (s.take b) j = bAt s j := by unfold bAt; simp [List.getD_eq_getElem?_getD, List.getElem?_take, h]
/-- One step of the search for points. -/
theorem parts_step {s : Bytes} {a i : Nat} (hai : a ≤ i) (hi : i < s.length) (hn : ∀ j, a ≤ j → j < i → bAt s j ≠ 46) (he : bAt s i = 46) : parts (s.drop a) = ((s.drop a).take (i - a)) :: parts (s.drop (i + 1)) := by
  have h := parts_at (s.drop a) (i - a) (by simp; omega) (fun j hj => by rw [bAt_drop]; exact hn _ (by omega) (by omega)) (by rw [bAt_drop, show a + (i - a) = i by omega]; exact he)
  rw [h, List.drop_drop, show a + (i - a + 1) = i + 1 by omega]
theorem parts_last {s : Bytes} {a : Nat} (hn : ∀ j, a ≤ j → j < s.length → bAt s j ≠ 46) : parts (s.drop a) = [s.drop a] :=
  parts_none _ (fun j hj => by rw [bAt_drop]; exact hn _ (by omega) (by simp at hj; omega))
theorem index_byte (c : UInt8) : ∀ s : Bytes, Lib.index s [c] = Lib.indexByte s c
  | [] => rfl
  | b :: l => by
    unfold Lib.index Lib.indexByte
    rw [index_byte c l, show List.isPrefixOf [c] (b :: l) = (b == c) from by simp [List.isPrefixOf]; rw [Bool.eq_iff_iff]; simp; exact eq_comm]
/-- strings.Cut at one byte. -/
theorem cut_byte (s : Bytes) (c : UInt8) : (∀ j, j < s.length → bAt s j ≠ c.toNat) ∧ Lib.cut s [c] = (s, [], false) ∨ ∃ i : Nat, i < s.length ∧ bAt s i = c.toNat ∧ (∀ j, j < i → bAt s j ≠ c.toNat) ∧ Lib.cut s [c] = (s.take i, s.drop (i + 1), true) := by
  unfold Lib.cut
  rw [index_byte]
  rcases indexByte_cases s c with ⟨h1, h2⟩ | ⟨i, h1, h2, h3, h4⟩
  · exact .inl ⟨h2, by rw [h1, if_neg (by omega)]⟩
  · exact .inr ⟨i, h1, h3, h4, by rw [h2, if_pos (by omega)]; simp⟩
theorem lastB_lt (s : Bytes) (c : UInt8) : lastB s c < s.length ∧ -1 ≤ lastB s c := by
  rcases lastB_spec s c with ⟨h, _⟩ | ⟨i, h1, h2, _⟩ <;> omega
theorem lastB_eq {s : Bytes} {c : UInt8} {i : Nat} (h1 : i < s.length) (h2 : bAt s i = c.toNat) (h3 : ∀ j, i < j → j < s.length → bAt s j ≠ c.toNat) : lastB s c = i := by
  rcases lastB_spec s c with ⟨h, h4⟩ | ⟨k, h4, h5, h6, h7⟩
  · exact absurd h2 (h4 i h1)
  · rw [h5]
    rcases Nat.lt_trichotomy k i with h | h | h
    · exact absurd h2 (h7 i h h1)
    · omega
    · exact absurd h6 (h3 k h h4)
theorem lastB_none {s : Bytes} {c : UInt8} (h : ∀ j, j < s.length → bAt s j ≠ c.toNat) : lastB s c = -1 := by
  rcases lastB_spec s c with ⟨h1, _⟩ | ⟨k, h4, h5, h6, h7⟩
  · exact h1
  · exact absurd h6 (h k h4)
end Go.Proofs.YtnjkdnbabogcjaaDoor
