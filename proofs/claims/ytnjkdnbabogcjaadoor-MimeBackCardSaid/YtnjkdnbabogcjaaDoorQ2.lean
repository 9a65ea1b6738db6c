/- The variables behind a round: my own text. -/
import Derived.Test.YtnjkdnbabogcjaaDoorQ1
set_option linter.unusedVariables false
set_option linter.unusedSimpArgs false
namespace Go.Proofs.YtnjkdnbabogcjaaDoor
open Go Go.RowKit Go.Kw
theorem Gl.kp {w w' : World} {own : List Nat} {Bd : Nat} (h : Gl w) (k : Kp own Bd w w') (hB : NG ≤ Bd) : Gl w' := by
  have key : ∀ g, g < NG → w'.heap[g]? = w.heap[g]? := fun g hg => k.low g (by omega)
  have kc : ∀ g o, g < NG → w'.cell? ⟨g, o, none⟩ = w.cell? ⟨g, o, none⟩ := fun g o hg => World.cell?_of_block (w := w) (key g hg)
  refine ⟨Nat.le_trans h.size k.size, ?_, ?_, ?_, ?_⟩
  · obtain ⟨m, hm⟩ := h.maxlen; exact ⟨m, (kc _ _ (by decide)).trans hm⟩
  · obtain ⟨m, hm, h2⟩ := h.errS; exact ⟨m, (kc _ _ (by decide)).trans hm, h2⟩
  · obtain ⟨m, hm, h2⟩ := h.errR; exact ⟨m, (kc _ _ (by decide)).trans hm, h2⟩
  · have hp := h.pow
    unfold Lib.TabIs World.var? at hp ⊢
    rw [show Tryd.prog.globalNamed "internal/strconv.uint64pow10" = some 3 from by kernel_rfl] at hp ⊢
    simp only [Option.bind_some] at hp ⊢
    rw [key _ (by decide)]
    exact hp
theorem stringslite_Index1_ok (s : Bytes) (c : UInt8) (w : World) : Pu Tryd.prog 136 #[S s, S [c]] w (.int .i64 (Lib.indexByte s c)) :=
  (Any.stringslite_Index_one Tryd.lays219 ⟨s.toArray⟩ c w).mono fun e w' ⟨h, hw⟩ => ⟨_, h, rfl, by subst hw; exact Chg.refl _ _⟩
theorem indexByte_none {s : Bytes} {c : UInt8} (h : ∀ j, j < s.length → bAt s j ≠ c.toNat) : Lib.indexByte s c = -1 := by
  rcases indexByte_cases s c with ⟨h1, _⟩ | ⟨i, h1, h2, h3, h4⟩
  · exact h1
  · exact absurd h3 (h i h1)
theorem indexByte_some {s : Bytes} {c : UInt8} {i : Nat} (hi : i < s.length) (he : bAt s i = c.toNat) (hn : ∀ j, j < i → bAt s j ≠ c.toNat) : Lib.indexByte s c = i := by
  rcases indexByte_cases s c with ⟨_, h1⟩ | ⟨k, h1, h2, h3, h4⟩
  · exact absurd he (h1 i hi)
  · rw [h2]
    rcases Nat.lt_trichotomy k i with h | h | h
    · exact absurd h3 (hn k h)
    · rw [h]
    · exact absurd he (h4 i h)
end Go.Proofs.YtnjkdnbabogcjaaDoor
