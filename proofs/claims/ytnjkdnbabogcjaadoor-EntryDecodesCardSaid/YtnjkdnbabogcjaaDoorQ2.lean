/- The variables behind a round: my own text. -/
import Derived.Test.YtnjkdnbabogcjaaDoorQ1
set_option linter.unusedVariables false
set_option linter.unusedSimpArgs false
namespace Go.Proofs.YtnjkdnbabogcjaaDoor
open Go Go.RowKit Go.Kw
theorem Gl.kp {w w' : World} {own : List Nat} {Bd : Nat} (h : Gl w) (k : Kp own Bd w w') (hB : NG ≤ Bd) : Gl w' := by
  have key : ∀ g, g < NG → w'.heap[g]? = w.heap[g]? := fun g hg => k.low g (by omega)
  have kc : ∀ g o, g < NG → w'.cell? ⟨g, o, none⟩ = w.cell? ⟨g, o, none⟩ := fun g o hg => World.cell?_of_block (w := w) (key g hg)
  refine ⟨Nat.le_trans h.size k.size, ?_, ?_, ?_, ?_⟩
  · obtain ⟨m, hm⟩ := h.maxlen; exact ⟨m, (kc _ _ (by decide)).trans hm⟩
  · obtain ⟨m, hm, h2⟩ := h.errS; exact ⟨m, (kc _ _ (by decide)).trans hm, h2⟩
  · obtain ⟨m, hm, h2⟩ := h.errR; exact ⟨m, (kc _ _ (by decide)).trans hm, h2⟩
  · have hp := h.pow
    unfold Lib.TabIs World.var? at hp ⊢
    rw [show Tryd.prog.globalNamed "internal/strconv.uint64pow10" = some 3 from by kernel_rfl] at hp ⊢
    simp only [Option.bind_some] at hp ⊢
    rw [key _ (by decide)]
    exact hp
end Go.Proofs.YtnjkdnbabogcjaaDoor
