/- The examples of the laws on reports; what is short: my own text. -/
import Derived.Test.YtnjkdnbabogcjaaDoorQ6
import Derived.Test.YtnjkdnbabogcjaaDoorQ8
set_option linter.unusedVariables false
set_option linter.unusedSimpArgs false
set_option maxRecDepth 100000
namespace Go.Proofs.YtnjkdnbabogcjaaDoor
open Go Go.RowKit Go.Kw
theorem awakeM_ok : repOK [] [[97, 64, 98]] 0 [] := ⟨awake_check.1, by simp, by simp⟩
theorem jn_one : jn 1 = [106, 111, 117, 114, 110, 97, 108, 45, 49] := by
  have e : Lib.decDigits 1 = [49] := by rw [Lib.decDigits, dif_pos (by omega)]; rfl
  unfold jn
  rw [itoa_nat, e]; rfl
theorem jn_zero : jn 0 = [106, 111, 117, 114, 110, 97, 108, 45, 48] := by
  have e : Lib.decDigits 0 = [48] := by rw [Lib.decDigits, dif_pos (by omega)]; rfl
  unfold jn
  rw [itoa_nat, e]; rfl
theorem awakeM_bnd {k : Nat} (h : IsBnd [45, 45, 106, 111, 117, 114, 110, 97, 108, 45, 48] k) : jn k = [106, 111, 117, 114, 110, 97, 108, 45, 49] := by
  have h1 : IsBnd [45, 45, 106, 111, 117, 114, 110, 97, 108, 45, 48] 1 := by
    refine ⟨?_, fun j hj => ?_⟩
    · unfold dj; rw [jn_one]; decide
    · have : j = 0 := by omega
      subst this
      unfold dj; rw [jn_zero]; decide
  rw [h.unique h1, jn_one]
theorem awakeM_len (k : Nat) : 100 < (repB [] [[97, 64, 98]] 0 [] (jn k)).length := by
  unfold repB aheadL tailP
  simp [linesP]
  omega
def fewP (fr : Bytes) (to : List Bytes) (b : Bytes) : Prop := fr.length ≤ 300 ∧ (to.length ≤ 10 ∨ to.length = 101) ∧ b.length ≤ 1000
instance (fr : Bytes) (to : List Bytes) (b : Bytes) : Decidable (fewP fr to b) := by unfold fewP; infer_instance
theorem few_bound {fr : Bytes} {to : List Bytes} {at_ : Int} {b : Bytes} {k : Nat} (h : repOK fr to at_ b) (hb : b.length ≤ 1000) (h0 : -9223372036854775808 ≤ at_) (h1 : at_ ≤ 9223372036854775807) (hk : k < 10000000) : (repB fr to at_ b (jn k)).length ≤ 1000000 := by
  have hi := itoa_len at_ h0 h1
  have hj := jn_len k (by omega)
  have hf : fr.length ≤ 320 := by
    rcases h.1.1 with e | e
    · rw [e]; simp
    · exact mailbox_len e
  have hl := h.2.1
  have := linesP_bound (aheadL fr to at_ (jn k)) 400 (fun x hx => by
    unfold aheadL at hx
    simp only [List.mem_append, List.mem_cons, List.not_mem_nil, or_false, List.mem_map] at hx
    rcases hx with ((rfl | rfl | rfl | rfl | rfl | rfl | rfl | rfl) | ⟨t, ht2, rfl⟩) | (rfl | rfl | rfl)
    all_goals first | (simp; done) | skip
    all_goals first | (have := mailbox_len (h.1.2.2.2 t ht2); simp; omega) | (simp; omega))
  rw [aheadL_len] at this
  have h2 : (to.length + 11) * (400 + 2) ≤ 111 * 402 := Nat.mul_le_mul_right _ (by omega)
  have h3 := repB_len fr to at_ b (jn k)
  have h4 := tail_len (jn k)
  omega
theorem bnd_small {b : Bytes} {k : Nat} (h : IsBnd b k) (hb : b.length ≤ 1000000) : k < 10000000 := by
  obtain ⟨j, h1, h2⟩ := bnd_ex b hb
  rw [h.unique h2]; exact h1
end Go.Proofs.YtnjkdnbabogcjaaDoor
