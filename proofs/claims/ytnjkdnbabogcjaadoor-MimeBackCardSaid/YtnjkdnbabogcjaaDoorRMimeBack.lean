/- MimeBack: the row: the walk at every open world: the arguments opened, the laid variables and the world's shape read, the result shut: my own text. -/
import Derived.Test.YtnjkdnbabogcjaaDoorP18
import Derived.Test.YtnjkdnbabogcjaaDoorRE
set_option linter.unusedVariables false
set_option linter.unusedSimpArgs false
namespace Go.Proofs.YtnjkdnbabogcjaaDoor
open Go Go.ChangeShapes Go.WideShapes Go.ChangeAt Go.RowKit Go.Kw
theorem mimeBack_door (os : Os) (args : Array Value) : laidMetH Tryd.prog Rows.mimeBackRow.laid ((World.doorLaid Tryd.prog 4000 os).forCall (fun _ _ => 0) ⟨#[], args, []⟩).memory :=
  laidMetH_of_parts3 (fuel := 8) (laidMet_of_run' 8 (by kernel_rfl) (by kernel_rfl)) (by kernel_rfl) (by kernel_rfl)
set_option maxRecDepth 100000 in
theorem mimeBack_lifted (os : Os) (started : os.Started) (H : Type) (enc : TypeId × Value → H) :
    ReturnsInHanded {} Tryd.checked os 5 .any (fun w args => (Rows.mimeBackSpec.pre enc Tryd.prog Tryd.f5 [] false w args ∧ laidMetH Tryd.prog Rows.mimeBackRow.laid w) ∧ sizedMet enc Tryd.prog Tryd.f5 (OpenSpec.ofChange Rows.mimeBackSpec) false w args)
      (Rows.mimeBackSpec.post enc Tryd.prog Tryd.f5 false true false false) := by
  refine returnsInHanded_of_change_and_shaped (C := Tryd.checked) (X := fun w _ => laidMetH Tryd.prog Rows.mimeBackRow.laid w) (fun _ _ _ hh h => h.of_heap hh) r_own started (by kernel_rfl) Tryd.func5
    (ChangeSpec.witness_shaped (enc := enc) (C := Tryd.checked) (os := os) (X := fun w _ => laidMetH Tryd.prog Rows.mimeBackRow.laid w) false (World.doorLaid Tryd.prog 4000 os) #[.agg #[.string ⟨#[]⟩, .slice none 0 0, .int .i64 0], .slice none 0 0] 8 rfl (World.shaped_of_RefB (by kernel_rfl) (by kernel_rfl)) (by kernel_rfl) (by kernel_rfl) (by kernel_rfl) (mimeBack_door os _)) ?_
  intro W base args ds gs before hval0 hW _ hwt0 hL hsh _
  have hval : ∀ (j : Nat) t v, Tryd.f5.params[j]? = some t → args[j]? = some v → Value.okWide Tryd.prog W .any base t v := hval0
  have hwt : (DataW.weightsEach Tryd.prog (Tryd.f5.params.toList ++ Rows.mimeBackSpec.plain.varTypes Tryd.prog) (ds ++ gs)).all (· ≤ reachBytes) = true := hwt0
  have hW' := hW
  obtain ⟨p, q, hA0, hV, rfl, hfz, hnd⟩ := hW
  have hA : DataW.TrodAll enc Tryd.prog W 0 (fun _ => true) true Tryd.f5.params.toList args.toList ds p := hA0
  rw [show Tryd.f5.params = #[26, 22] from by kernel_rfl] at hA hval hwt
  obtain ⟨v0, v1, d0, d1, p0, p1, rfl, rfl, rfl, h0, h1⟩ := trodAll_two hA
  obtain ⟨rfl, rfl⟩ := trodVars_none hV
  clear hA0 hval0 hwt0
  simp only [List.append_nil] at hW'
  have hlt : ∀ x ∈ (p0 ++ p1), x.block < W.heap.size := fun x hx => by simpa using hW'.lt x hx
  have h0k := h0
  have hs0 : Small Tryd.prog 26 d0 := small_of hwt (i := 0) rfl rfl
  have h1k := h1
  have hs1 : Small Tryd.prog 22 d1 := small_of hwt (i := 1) rfl rfl
  obtain ⟨cs0, rfl, _⟩ := okWide_struct rUE (hval 0 26 v0 rfl rfl)
  obtain ⟨f0, hf0⟩ := h0
  obtain ⟨fr0, to0, at0, tv0, e0, hS0, hfr0, hto0, hlo0, hup0⟩ := rd_env hf0 hs0
  obtain rfl : cs0 = #[S fr0, tv0, .int .i64 at0] := Array.toList_inj.1 e0
  obtain ⟨a1, len1, cap1, rfl⟩ := okWide_slice rU22 (hval 1 22 v1 rfl rfl)
  obtain ⟨f1, hf1⟩ := h1
  obtain ⟨w1, b1, e1, hb1⟩ := rd_bytes rU22 rU5 rC5 hf1
  simp [Value.cells] at e1
  subst e1
  have hgl : Gl W := r_gl (by kernel_rfl) hL hsh (by simp [Rows.mimeBackRow]) (by simp [Rows.mimeBackRow]) (by simp [Rows.mimeBackRow])
  refine Calls.mono (mimeBack_ok fr0 to0 at0 b1 hS0 hb1 hfr0 hto0 hlo0 hup0 hgl) fun e W' ⟨v, he, hv, hc⟩ => ?_
  subst he; subst hv
  have hbl := hc.below
  exact ⟨_, rfl, _, _, _, [], (p0 ++ p1), [], hW', trodAll_mk1 (shut_bool rU4 true), (trodAll_mk2 (Below.trod r_laidOut (by kernel_rfl) (of_decide_eq_true (by kernel_rfl)) h0k hbl (fun x hx => hlt x (by simp [hx]))) (Below.trod r_laidOut (by kernel_rfl) (of_decide_eq_true (by kernel_rfl)) h1k hbl (fun x hx => hlt x (by simp [hx])))), rfl, hbl.frame _, fun h => by cases h⟩
theorem mimeBack_holds : Rows.MimeBackSaid :=
  OpenClaim.holds_of_wide 5 Tryd.f5 rfl rfl rfl rfl rfl rfl rfl ⟨rfl, rfl, rfl, rfl, rfl⟩ rfl rfl rfl rfl rfl (by kernel_rfl) Tryd.func5 (by kernel_rfl)
    (of_decide_eq_true (by kernel_rfl)) (by unfold Func.isWrapper; first | (rw [if_pos (by decide +kernel)]; kernel_rfl) | (rw [if_neg (by decide +kernel)]; exact ⟨rfl, rfl⟩))
    (fun os started H enc _ => mimeBack_lifted os started H enc)
#print axioms mimeBack_holds
end Go.Proofs.YtnjkdnbabogcjaaDoor
