/- bytes.Contains, bytes.Clone, bytes.HasPrefix in the words of these texts: my own text. -/
import Derived.Test.YtnjkdnbabogcjaaDoorQ2
import Derived.Test.YtnjkdnbabogcjaaDoorK14
import Derived.Shelf.Bytes.SlIndexWhole
set_option linter.unusedVariables false
set_option linter.unusedSimpArgs false
set_option maxRecDepth 100000
namespace Go.Proofs.YtnjkdnbabogcjaaDoor
open Go Go.RowKit Go.Kw

theorem map_range (l : Bytes) : ∀ x, x ∈ (l.map fun b => (b.toNat : Int)) → 0 ≤ x ∧ x < 256 := by
  intro x hx
  obtain ⟨b, _, rfl⟩ := List.mem_map.1 hx
  have := b.toNat_lt
  omega
theorem bs_some {w : World} {lo hi : Nat} {v : Value} {l : Bytes} (h : Bs w lo hi v l) : (∃ a cap, v = .slice (some a) l.length cap ∧ l.length ≤ cap) ∨ (v = .slice none 0 0 ∧ l = []) := by
  obtain ⟨h1, A, cap, rfl, h2, h3, h4, h5, h6, h7⟩ := h
  cases A with
  | none =>
    have hc := h5 rfl
    have hl : l = [] := List.eq_nil_of_length_eq_zero (by omega)
    subst hl; subst hc
    exact .inr ⟨rfl, rfl⟩
  | some a => exact .inl ⟨a, cap, rfl, h2⟩
theorem bytes_Contains_ok {w : World} {lo hi lo2 hi2 : Nat} {v v2 : Value} {l l2 : Bytes} (h : Bs w lo hi v l) (h2 : Bs w lo2 hi2 v2 l2) (hl : l.length < 4294967281) (h0 : 2 ≤ l2.length) (hg : Gl w) : Pu Tryd.prog 97 #[v, v2] w (.bool (decide (0 ≤ Lib.index l l2))) := by
  obtain ⟨m, hm⟩ := hg.maxlen
  rcases bs_some h2 with ⟨a2, c2, rfl, g2⟩ | ⟨rfl, rfl⟩
  · have hk := h2.len_le
    obtain ⟨_, hc2⟩ := bs_cells h2
    rcases bs_some h with ⟨a, c, rfl, g⟩ | ⟨rfl, rfl⟩
    · obtain ⟨_, hc⟩ := bs_cells h
      refine (Any.bytes_Contains_at Tryd.lays186 a a2 l.length c l2.length c2 _ _ m w (by simp) (by simp) (map_range l) (map_range l2) hc hc2 g hl (by omega) hm).mono fun e w' ⟨h, q, hw⟩ => ⟨_, h, ?_, by subst hw; exact chg_drewN _ _⟩
      rw [bytesOf_map, bytesOf_map]; rfl
    · refine (Any.bytes_Contains_nil Tryd.lays186 (some a2) l2.length c2 w (by omega) (fun e => by omega)).mono fun e w' ⟨h, hw⟩ => ⟨_, h, ?_, by subst hw; exact Chg.refl _ _⟩
      congr 1
      rw [decide_eq_false (by omega)]
      symm
      rw [decide_eq_false]
      rw [Lib.index_none]
      · omega
      · intro j hj
        unfold Lib.occAt
        cases l2 with
        | nil => simp at h0
        | cons c l2 => simp
  · simp at h0
theorem bytes_Clone_ok {w : World} {lo hi : Nat} {v : Value} {l : Bytes} (h : Bs w lo hi v l) (hl : l.length ≤ 140737488355328) : Rt Tryd.prog 55 #[v] w fun u w' => OwnR w' w.heap.size 5 u l ∧ Chg [] w.heap.size w w' := by
  rcases bs_some h with ⟨a, c, rfl, g⟩ | ⟨rfl, rfl⟩
  · obtain ⟨_, hc⟩ := bs_cells h
    refine (Tryd.bytes_Clone_at a l.length c _ w (by simp) hl hc).mono fun e w' ⟨v', h, ho, _, hb⟩ => ⟨v', h, ?_, Chg.of_below hb (Nat.le_refl _)⟩
    have e : (l.map fun b => (b.toNat : Int)).map (Value.int .u8) = bcells l := by simp [bcells]
    rw [e] at ho
    exact ho
  · exact (Tryd.bytes_Clone_nil 0 0 w).mono fun e w' ⟨h, hw⟩ => ⟨_, h, by subst hw; exact ⟨OwnR.nil _ _ _, Chg.refl _ _⟩⟩
end Go.Proofs.YtnjkdnbabogcjaaDoor
