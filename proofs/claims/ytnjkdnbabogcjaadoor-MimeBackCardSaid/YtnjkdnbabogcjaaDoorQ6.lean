/- The two examples of the law: my own text. -/
import Derived.Test.YtnjkdnbabogcjaaDoorQ5
set_option linter.unusedVariables false
set_option linter.unusedSimpArgs false
namespace Go.Proofs.YtnjkdnbabogcjaaDoor
open Go Go.RowKit Go.Kw
theorem awake_put : putL [[97, 98], []] = [50, 58, 97, 98, 44, 48, 58, 44] := by
  have e2 : Lib.decDigits 2 = [50] := by rw [Lib.decDigits, dif_pos (by omega)]; rfl
  have e0 : Lib.decDigits 0 = [48] := by rw [Lib.decDigits, dif_pos (by omega)]; rfl
  simp [putL, put1, e2, e0]
theorem awake_check : checkP [] [[97, 64, 98]] 0 [] := by
  have hl : lastB [97, 64, 98] 64 = (1 : Nat) := lastB_eq (by decide) (by decide) (fun j h1 h2 => by
    have : j = 2 := by simp at h2; omega
    subst this; decide)
  refine ⟨⟨.inl rfl, by simp, by omega, fun s hs => ?_⟩, by simp, by simp⟩
  rw [List.mem_singleton.1 hs]
  refine ⟨by omega, by omega, ?_, ?_⟩
  · rw [hl]
    refine ⟨by decide, fun p hp => ?_⟩
    have : p = [98] := by
      rw [show parts (List.drop ((((1 : Nat) : Int)).toNat + 1) [97, 64, 98]) = [[98]] from by rfl] at hp
      exact List.mem_singleton.1 hp
    subst this
    refine ⟨by decide, by decide, by decide, by decide, fun j hj => ?_⟩
    have : j = 0 := by simp at hj; omega
    subst this; left; decide
  · rw [hl]
    intro p hp
    have : p = [97] := by
      rw [show parts (List.take (((1 : Nat) : Int)).toNat [97, 64, 98]) = [[97]] from by rfl] at hp
      exact List.mem_singleton.1 hp
    subst this
    refine ⟨by decide, fun j hj => ?_⟩
    have : j = 0 := by simp at hj; omega
    subst this; left; decide
end Go.Proofs.YtnjkdnbabogcjaaDoor
