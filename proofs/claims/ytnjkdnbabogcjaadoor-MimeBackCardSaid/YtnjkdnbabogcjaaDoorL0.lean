/- Contracts of Go's library in the words of these texts, from the shelf's: my own text. -/
import Derived.Test.YtnjkdnbabogcjaaDoorK13
import Derived.Test.YtnjkdnbabogcjaaDoorShelf
set_option linter.unusedVariables false
set_option linter.unusedSimpArgs false
set_option maxRecDepth 100000
namespace Go.Proofs.YtnjkdnbabogcjaaDoor
open Go Go.RowKit Go.Kw Go.Sort

abbrev NG : Nat := 8
/-- What is asked of the package-level variables. -/
structure Gl (w : World) : Prop where
  size : NG ≤ w.heap.size
  maxlen : ∃ m, w.cell? ⟨0, 0, none⟩ = some (.int .i64 m)
  errS : ∃ ev, w.cell? ⟨1, 0, none⟩ = some ev ∧ (ev = .nilIface ∨ ∃ te pe, ev = .iface te pe)
  errR : ∃ ev, w.cell? ⟨2, 0, none⟩ = some ev ∧ (ev = .nilIface ∨ ∃ te pe, ev = .iface te pe)
  pow : Lib.TabIs Tryd.prog w "internal/strconv.uint64pow10" .u64 Lib.pow10Tab
theorem Gl.keep {w w' : World} {r : List Nat} {B : Nat} (h : Gl w) (c : Chg r B w w') (hB : NG ≤ B) (hr : ∀ b, b < NG → b ∉ r) : Gl w' := by
  have key : ∀ g, g < NG → w'.heap[g]? = w.heap[g]? := fun g hg => c.block g (by omega) (hr g hg)
  have kc : ∀ g o, g < NG → w'.cell? ⟨g, o, none⟩ = w.cell? ⟨g, o, none⟩ := fun g o hg => World.cell?_of_block (w := w) (key g hg)
  refine ⟨Nat.le_trans h.size c.size, ?_, ?_, ?_, ?_⟩
  · obtain ⟨m, hm⟩ := h.maxlen; exact ⟨m, (kc _ _ (by decide)).trans hm⟩
  · obtain ⟨m, hm, h2⟩ := h.errS; exact ⟨m, (kc _ _ (by decide)).trans hm, h2⟩
  · obtain ⟨m, hm, h2⟩ := h.errR; exact ⟨m, (kc _ _ (by decide)).trans hm, h2⟩
  · have hp := h.pow
    unfold Lib.TabIs World.var? at hp ⊢
    rw [show Tryd.prog.globalNamed "internal/strconv.uint64pow10" = some 3 from by kernel_rfl] at hp ⊢
    simp only [Option.bind_some] at hp ⊢
    rw [key _ (by decide)]
    exact hp
theorem Gl.keep0 {w w' : World} {B : Nat} (h : Gl w) (c : Chg [] B w w') (hB : NG ≤ B) : Gl w' := h.keep c hB (fun _ _ => by simp)
theorem Gl.keepS {w w' : World} (h : Gl w) (c : Chg [] w.heap.size w w') : Gl w' := h.keep0 c h.size
theorem Gl.below {w : World} (h : Gl w) (B : Nat) (hB : NG ≤ B) : Lib.TabBelow Tryd.prog B w "internal/strconv.uint64pow10" .u64 Lib.pow10Tab := fun w' hb => by
  have hp := h.pow
  unfold Lib.TabIs World.var? at hp ⊢
  rw [show Tryd.prog.globalNamed "internal/strconv.uint64pow10" = some 3 from by kernel_rfl] at hp ⊢
  simp only [Option.bind_some] at hp ⊢
  rw [hb.block _ (Nat.lt_of_lt_of_le (by decide : 3 < NG) hB)]
  exact hp

theorem chg_drewN (w : World) (n : Nat) : Chg [] w.heap.size w (w.drewN n) := ⟨rfl, rfl, rfl, Nat.le_refl _, Nat.le_refl _, fun _ _ _ => rfl⟩
theorem chg_grow (w : World) (os : Array Obj) : Chg [] w.heap.size w (grow w os) := ⟨rfl, rfl, rfl, by simp [grow], Nat.le_refl _, fun b hb _ => by simp [grow, Array.getElem?_append, hb]⟩
theorem chg_drewGrow (w : World) (n : Nat) (os : Array Obj) : Chg [] w.heap.size w (grow (w.drewN n) os) := (chg_drewN w n).step0 (chg_grow _ os) (Nat.le_refl _)
theorem toU8 (c : UInt8) : ((c.toNat : Int).toNat).toUInt8 = c := by simp

/-- The last place of a byte; -1. -/
def lastB (s : Bytes) (c : UInt8) : Int := Lib.lastIndexByte ⟨s.toArray⟩ c.toNat
theorem lastB_spec (s : Bytes) (c : UInt8) : (lastB s c = -1 ∧ ∀ j, j < s.length → bAt s j ≠ c.toNat) ∨ ∃ i : Nat, i < s.length ∧ lastB s c = i ∧ bAt s i = c.toNat ∧ ∀ j, i < j → j < s.length → bAt s j ≠ c.toNat := by
  have h := Lib.lastIdx_spec ⟨s.toArray⟩ c.toNat s.length
  have e : ∀ j : Nat, j < s.length → ((((⟨s.toArray⟩ : ByteArray).data[j]!).toNat : Nat) : Int) = bAt s j := fun j hj => by
    unfold bAt
    simp [hj, List.getD_eq_getElem?_getD]
  rcases h with ⟨h1, h2⟩ | ⟨i, h1, h2, h3, h4⟩
  · exact .inl ⟨h1, fun j hj => by rw [← e j hj]; exact h2 j hj⟩
  · exact .inr ⟨i, h1, h2, by rw [← e i h1]; exact h3, fun j h5 h6 => by rw [← e j h6]; exact h4 j h5 h6⟩

theorem strings_IndexByte_ok (s : Bytes) (c : UInt8) (w : World) : Pu Tryd.prog 150 #[S s, .int .u8 c.toNat] w (.int .i64 (Lib.indexByte s c)) :=
  (Tryd.strings_IndexByte ⟨s.toArray⟩ c.toNat w).mono fun e w' ⟨h, hw⟩ => ⟨_, h, by rw [toU8], by subst hw; exact Chg.refl _ _⟩
theorem strings_LastIndexByte_ok (s : Bytes) (c : UInt8) (hs : s.length < 4611686018427387904) (w : World) : Pu Tryd.prog 114 #[S s, .int .u8 c.toNat] w (.int .i64 (lastB s c)) :=
  (Tryd.strings_LastIndexByte ⟨s.toArray⟩ c.toNat hs w).mono fun e w' ⟨h, hw⟩ => ⟨_, h, rfl, by subst hw; exact Chg.refl _ _⟩
theorem strings_Cut_ok (s p : Bytes) (hs : s.length < 4294967281) (w : World) (hg : Gl w) : Pu Tryd.prog 49 #[S s, S p] w (.tuple #[S (Lib.cut s p).1, S (Lib.cut s p).2.1, .bool (Lib.cut s p).2.2]) := by
  obtain ⟨m, hm⟩ := hg.maxlen
  exact (Tryd.strings_Cut ⟨s.toArray⟩ ⟨p.toArray⟩ m w hs hm).mono fun e w' ⟨h, n, hw⟩ => ⟨_, h, rfl, by subst hw; exact chg_drewN _ _⟩
theorem strings_CutPrefix_ok (s p : Bytes) (w : World) : Pu Tryd.prog 52 #[S s, S p] w (.tuple #[S (Lib.trimPrefix s p), .bool (Lib.hasPrefix s p)]) :=
  (Tryd.strings_CutPrefix ⟨s.toArray⟩ ⟨p.toArray⟩ w).mono fun e w' ⟨h, hw⟩ => ⟨_, h, rfl, by subst hw; exact Chg.refl _ _⟩
theorem strconv_FormatInt_ok (n : Int) (h0 : -9223372036854775808 ≤ n) (h1 : n ≤ 9223372036854775807) (w : World) (hg : Gl w) : Pu Tryd.prog 75 #[.int .i64 n, .int .i64 10] w (S (Lib.itoa n)) :=
  (Tryd.strconv_FormatInt_10 n h0 h1 w hg.pow).mono fun e w' ⟨h, k, os, hw⟩ => ⟨_, h, rfl, by subst hw; exact chg_drewGrow _ _ _⟩
theorem strconv_Itoa_ok (n : Int) (h0 : -9223372036854775808 ≤ n) (h1 : n ≤ 9223372036854775807) (w : World) (hg : Gl w) : Pu Tryd.prog 96 #[.int .i64 n] w (S (Lib.itoa n)) :=
  (Tryd.strconv_Itoa n h0 h1 w hg.pow).mono fun e w' ⟨h, k, os, hw⟩ => ⟨_, h, rfl, by subst hw; exact chg_drewGrow _ _ _⟩
/-- What ParseInt(s, 10, 64) answers: the number and no error; or an error. -/
theorem strconv_ParseInt_ok (s : Bytes) (hs : s.length ≤ 281474976710656) (w : World) (hg : Gl w) : Rt Tryd.prog 39 #[S s, .int .i64 10, .int .i64 64] w fun v w' =>
    Chg [] w.heap.size w w' ∧ ((∃ n, Lib.parseIntB 64 s = .ok n ∧ v = .tuple #[.int .i64 n, .nilIface]) ∨ ((∀ n, Lib.parseIntB 64 s ≠ .ok n) ∧ ∃ n T p, v = .tuple #[.int .i64 n, .iface T p])) := by
  cases h : Lib.parseIntB 64 s
  · rename_i n
    exact (Any.strconv_ParseInt_10_at64_ok Tryd.laysC174 ⟨s.toArray⟩ (by show s.length ≤ 9223372036854775806; omega) n h w).mono fun e w' ⟨he, hw⟩ => ⟨_, he, by
      rcases hw with rfl | ⟨t, rfl⟩
      · exact Chg.refl _ _
      · exact chg_bytesWorld _ _, .inl ⟨n, rfl, rfl⟩⟩
  · obtain ⟨ev, h1, h2⟩ := hg.errS
    exact (Any.strconv_ParseInt_10_at64_syntax Tryd.laysC174 ⟨s.toArray⟩ hs h ev w h1 h2).mono fun e w' ⟨N, he, _, _, hb⟩ => ⟨_, he, Chg.of_below hb (Nat.le_refl _), .inr ⟨fun n => by simp, _, _, _, rfl⟩⟩
  · obtain ⟨ev, h1, h2⟩ := hg.errR
    exact (Any.strconv_ParseInt_10_at64_range Tryd.laysC174 ⟨s.toArray⟩ hs h ev w h1 h2).mono fun e w' ⟨N, he, _, _, hb⟩ => ⟨_, he, Chg.of_below hb (Nat.le_refl _), .inr ⟨fun n => by simp, _, _, _, rfl⟩⟩
/-- Bytes as numbers. -/
theorem bs_cells {w : World} {lo hi : Nat} {a : Addr} {n c : Nat} {l : Bytes} (h : Bs w lo hi (.slice (some a) n c) l) : n = l.length ∧ ∀ i, i < l.length → w.cell? (a.add i) = some (.int .u8 ((l.map fun b => (b.toNat : Int)).getD i 0)) := by
  obtain ⟨h1, A, cap, hv, h2, h3, h4, h5, h6, h7⟩ := h
  injection hv with e1 e2 e3
  refine ⟨e2, fun i hi => ?_⟩
  have hx : (bcells l)[i]? = some (.int .u8 ((l.map fun b => (b.toNat : Int)).getD i 0)) := by
    simp [bcells, hi, List.getD_eq_getElem?_getD]
  obtain ⟨a', ha, hc⟩ := h7 i _ hx
  rw [← e1] at ha
  cases ha
  exact hc
theorem bytesOf_map (l : Bytes) : Lib.bytesOf (l.map fun b => (b.toNat : Int)) = l := by
  unfold Lib.bytesOf
  rw [List.map_map]
  conv => rhs; rw [← List.map_id l]
  apply List.map_congr_left
  intro b _
  simp
theorem bytes_IndexByte_ok {w : World} {lo hi : Nat} {v : Value} {l : Bytes} (h : Bs w lo hi v l) (c : UInt8) : Pu Tryd.prog 86 #[v, .int .u8 c.toNat] w (.int .i64 (Lib.indexByte l c)) := by
  have h0 := h
  obtain ⟨h1, A, cap, rfl, h2, h3, h4, h5, h6, h7⟩ := h
  cases A with
  | none =>
    have hc := h5 rfl
    have hl : l = [] := List.eq_nil_of_length_eq_zero (by omega)
    subst hl; subst hc
    exact (Tryd.bytes_IndexByte_nil c.toNat w).mono fun e w' ⟨h, hw⟩ => ⟨_, h, rfl, by subst hw; exact Chg.refl _ _⟩
  | some a =>
    obtain ⟨_, hc⟩ := bs_cells h0
    exact (Tryd.bytes_IndexByte_at a l.length cap (l.map fun b => (b.toNat : Int)) c.toNat w (by simp) hc).mono fun e w' ⟨h, hw⟩ => ⟨_, h, by rw [toU8, bytesOf_map], by subst hw; exact Chg.refl _ _⟩
theorem bytes_Equal_ok {w : World} {lo hi lo2 hi2 : Nat} {v v2 : Value} {l l2 : Bytes} (h : Bs w lo hi v l) (h2 : Bs w lo2 hi2 v2 l2) : Pu Tryd.prog 41 #[v, v2] w (.bool (decide (l = l2))) := by
  refine (Tryd.bytes_Equal_strs v v2 ⟨l.toArray⟩ ⟨l2.toArray⟩ w (run_bytes_S (by kernel_rfl) (by kernel_rfl) h) (run_bytes_S (by kernel_rfl) (by kernel_rfl) h2)).mono fun e w' ⟨h, hw⟩ => ⟨_, h, ?_, by subst hw; exact Chg.refl _ _⟩
  rw [show ∀ (l : Bytes), (⟨l.toArray⟩ : ByteArray).toList = l from fun l => by simp [ByteArray.toList_eq]]
  congr 1
  rw [Bool.eq_iff_iff]; simp
/-- The first place of a byte. -/
theorem indexByte_cases (l : Bytes) (c : UInt8) : (Lib.indexByte l c = -1 ∧ ∀ j, j < l.length → bAt l j ≠ c.toNat) ∨ ∃ i : Nat, i < l.length ∧ Lib.indexByte l c = i ∧ bAt l i = c.toNat ∧ ∀ j, j < i → bAt l j ≠ c.toNat := by
  induction l with
  | nil => exact .inl ⟨rfl, fun j hj => by simp at hj⟩
  | cons b l ih =>
    unfold Lib.indexByte
    have h0 : bAt (b :: l) 0 = b.toNat := rfl
    have hS : ∀ j, bAt (b :: l) (j + 1) = bAt l j := fun j => rfl
    by_cases hb : b = c
    · subst hb
      exact .inr ⟨0, by simp, by simp, h0, fun j hj => by omega⟩
    · have hne : bAt (b :: l) 0 ≠ c.toNat := by
        rw [h0]; intro e; apply hb; apply UInt8.toNat_inj.1; omega
      rw [if_neg (by simpa using hb)]
      rcases ih with ⟨h1, h2⟩ | ⟨i, h1, h2, h3, h4⟩
      · rw [h1]
        refine .inl ⟨rfl, fun j hj => ?_⟩
        cases j with
        | zero => exact hne
        | succ j => rw [hS]; exact h2 j (by simpa using hj)
      · rw [h2, if_neg (by simp; try omega)]
        refine .inr ⟨i + 1, by simpa using h1, by simp, by rw [hS]; exact h3, fun j hj => ?_⟩
        cases j with
        | zero => exact hne
        | succ j => rw [hS]; exact h4 j (by omega)
end Go.Proofs.YtnjkdnbabogcjaaDoor
