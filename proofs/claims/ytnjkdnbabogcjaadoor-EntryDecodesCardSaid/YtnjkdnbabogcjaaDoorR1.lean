/- EntryDecodes: the row. The walk (P12) at every open world: the bytes opened, the laid variables and the world's shape read, the result shut. -/
import Derived.Test.YtnjkdnbabogcjaaDoorRows
import Derived.Test.YtnjkdnbabogcjaaDoorP12
import Derived.Test.YtnjkdnbabogcjaaDoorR0
import Derived.Shelf.Vars
import Derived.LaidMore
import Derived.OpenShut
import Derived.Stop.Joined
import Derived.ProofKit
namespace Go.Proofs.YtnjkdnbabogcjaaDoor
open Go Go.ChangeShapes Go.WideShapes Go.ChangeAt Go.RowKit Go.Kw

theorem r_own : ownKnob Tryd.prog.godebug = none := by kernel_rfl
theorem r_laidOut : laidOutB Tryd.prog = true := by kernel_rfl
theorem rU22 : Tryd.prog.underlying 22 = some (.slice 5) := by kernel_rfl
theorem rU5 : Tryd.prog.underlying 5 = some (.int .u8) := by kernel_rfl
theorem rC5 : Tryd.prog.cellsOf 5 = 1 := by kernel_rfl
theorem rU4 : Tryd.prog.underlying 4 = some .bool := by kernel_rfl

def isIfaceT (P : Program) (t : TypeId) : Bool := match P.underlying t with | some (.interface _) => true | _ => false
theorem isIfaceT_eq {P : Program} {t : TypeId} (h : isIfaceT P t = true) : ∃ ms, P.underlying t = some (.interface ms) := by
  unfold isIfaceT at h
  split at h
  · exact ⟨_, by assumption⟩
  · cases h
theorem r_size {w : World} (h : w.ShapedOpen Tryd.prog) : NG ≤ w.heap.size := by
  have h7 : (((begin Tryd.prog (fun _ _ => 0) default).world.heap[7]?).bind Obj.row?).isSome = true := by kernel_rfl
  obtain ⟨⟨z, t⟩, hz⟩ := Option.isSome_iff_exists.1 h7
  obtain ⟨cs, hh, _⟩ := h.1 7 z t (Nat.le_of_ble_eq_true (by kernel_rfl)) hz
  have := (Array.getElem?_eq_some_iff.1 hh).1
  show 8 ≤ w.heap.size
  omega

abbrev lE : List (String × DataW Unit) := Rows.entryDecodesRow.laid
theorem lE_eq : lE = [("math/bits.deBruijn32tab", Rows.laid_math_bits_deBruijn32tab), ("math/bits.deBruijn64tab", Rows.laid_math_bits_deBruijn64tab), ("internal/strconv.uint64pow10", Rows.laid_internal_strconv_uint64pow10), ("strconv.ErrRange", Rows.laid_strconv_ErrRange), ("strconv.ErrSyntax", Rows.laid_strconv_ErrSyntax)] := rfl
theorem r_pow {w : World} (h : laidMetH Tryd.prog lE w) : Lib.TabIs Tryd.prog w "internal/strconv.uint64pow10" .u64 Lib.pow10Tab := by
  rw [MakeChecks.laidMetH_plain _ _ _ (by kernel_rfl), lE_eq] at h
  obtain ⟨ps, ⟨_, _, _, _, _, _, _, _, _, _, ⟨_, _, _, _, _, _, _, _, _, _, ⟨g, t, cs, fuel, p, q, hg, ht, hv, hd, _, _⟩, _⟩, _⟩, _⟩ := h
  obtain rfl := Option.some.inj ((show Tryd.prog.globalNamed "internal/strconv.uint64pow10" = some 3 by kernel_rfl).symm.trans hg)
  obtain rfl := Option.some.inj ((show (Tryd.prog.globals[3]?).map (·.type) = some 200 by kernel_rfl).symm.trans ht)
  unfold Lib.TabIs
  rw [hv, ← Lib.cells_of_tab (n := 20) (e := 159) (k := .u64) (zs := Lib.pow10Tab) (p := p) (by kernel_rfl) (by kernel_rfl) (by kernel_rfl) (by kernel_rfl) hd]

theorem iface_of_trod {P : Program} {w : World} {fuel : Nat} {t : TypeId} {cs : List Value} {nm : String} {d : DataW Unit} {p : List MemPlace} (ht : isIfaceT P t = true)
    (h : DataW.trod (fun _ => ()) P w 0 (fun _ => true) false fuel t cs = some (.iface nm d, p)) : ∃ u v, cs = [.iface u v] := by
  obtain ⟨ms, hu⟩ := isIfaceT_eq ht
  cases fuel with
  | zero => simp [DataW.trod] at h
  | succ fuel =>
    unfold DataW.trod at h
    rw [hu] at h
    split at h <;> simp_all
theorem cell_of_var {P : Program} {w : World} {n : String} {g : Nat} {cs : Array Value} (hg : P.globalNamed n = some g) (h : w.var? P n = some cs) (i : Nat) : w.cell? ⟨g, i, none⟩ = cs[i]? := by
  unfold World.var? at h
  rw [hg] at h
  simp only [Option.bind_some] at h
  unfold World.cell?
  split at h <;> simp_all
theorem err_of_laid {P : Program} {w : World} {n : String} {g : Nat} {t : TypeId} {cs : Array Value} {fuel : Nat} {nm : String} {d : DataW Unit} {p : List MemPlace} (hg : P.globalNamed n = some g) (ht : isIfaceT P t = true) (hv : w.var? P n = some cs)
    (hd : DataW.trod (fun _ => ()) P w 0 (fun _ => true) false fuel t cs.toList = some (.iface nm d, p)) : ∃ ev, w.cell? ⟨g, 0, none⟩ = some ev ∧ (ev = .nilIface ∨ ∃ te pe, ev = .iface te pe) := by
  obtain ⟨u, v, e⟩ := iface_of_trod ht hd
  refine ⟨.iface u v, ?_, .inr ⟨u, v, rfl⟩⟩
  rw [cell_of_var hg hv, ← Array.getElem?_toList, e]
  rfl
theorem r_errs {w : World} (h : laidMetH Tryd.prog lE w) : (∃ ev, w.cell? ⟨1, 0, none⟩ = some ev ∧ (ev = .nilIface ∨ ∃ te pe, ev = .iface te pe)) ∧ ∃ ev, w.cell? ⟨2, 0, none⟩ = some ev ∧ (ev = .nilIface ∨ ∃ te pe, ev = .iface te pe) := by
  rw [MakeChecks.laidMetH_plain _ _ _ (by kernel_rfl), lE_eq] at h
  obtain ⟨ps, ⟨_, _, _, _, _, _, _, _, _, _, ⟨_, _, _, _, _, _, _, _, _, _, ⟨_, _, _, _, _, _, _, _, _, _, ⟨g1, t1, cs1, f1, p1, q1, hg1, ht1, hv1, hd1, ⟨g2, t2, cs2, f2, p2, q2, hg2, ht2, hv2, hd2, _, _⟩, _⟩, _⟩, _⟩, _⟩, _⟩ := h
  obtain rfl := Option.some.inj ((show Tryd.prog.globalNamed "strconv.ErrRange" = some 2 by kernel_rfl).symm.trans hg1)
  obtain rfl := Option.some.inj ((show (Tryd.prog.globals[2]?).map (·.type) = some 75 by kernel_rfl).symm.trans ht1)
  obtain rfl := Option.some.inj ((show Tryd.prog.globalNamed "strconv.ErrSyntax" = some 1 by kernel_rfl).symm.trans hg2)
  obtain rfl := Option.some.inj ((show (Tryd.prog.globals[1]?).map (·.type) = some 75 by kernel_rfl).symm.trans ht2)
  exact ⟨err_of_laid hg2 (by kernel_rfl) hv2 hd2, err_of_laid hg1 (by kernel_rfl) hv1 hd1⟩

theorem r_gl {w : World} (h : laidMetH Tryd.prog lE w) (hs : w.ShapedOpen Tryd.prog) : Gl w :=
  ⟨r_size hs, cell_of_shapedOpen_int (t := 3) (zero := #[.int .i64 0]) hs (Nat.le_of_ble_eq_true (by kernel_rfl)) (by kernel_rfl) rfl (by kernel_rfl) (by kernel_rfl) (by kernel_rfl),
    (r_errs h).1, (r_errs h).2, r_pow h⟩

theorem door_met (os : Os) (args : Array Value) : laidMetH Tryd.prog lE ((World.doorLaid Tryd.prog 4000 os).forCall (fun _ _ => 0) ⟨#[], args, []⟩).memory :=
  laidMetH_of_parts3 (fuel := 8) (laidMet_of_run' 8 (by kernel_rfl) (by kernel_rfl)) (by kernel_rfl) (by kernel_rfl)

/-- The bytes that came in. -/
theorem r_bytes {W : World} {a : Addr} {len cap : Nat} {zs : List Int} (hl : len ≤ cap) (hm : cap ≤ maxLen) (hz : zs.length = cap) (hcell : ∀ i, i < zs.length → W.cell? (a.add i) = some (.int .u8 (zs.getD i 0))) (hw : ∀ n ∈ zs, (Lit.int .u8 n).wf = true) :
    ∃ b : Bytes, Bs W 0 W.heap.size (.slice (some a) len cap) b := by
  have hcs : bcells ((zs.take len).map fun z => UInt8.ofNat z.toNat) = (zs.take len).map fun z => Value.int .u8 z := by
    unfold bcells
    rw [List.map_map]
    refine List.map_congr_left fun z hz' => ?_
    have hwf := hw z (List.mem_of_mem_take hz')
    have h2 : 0 ≤ z ∧ z < 256 := by
      have e1 : IntKind.u8.min = 0 := rfl
      have e2 : IntKind.u8.max = 255 := rfl
      simp [Lit.wf] at hwf
      omega
    simp only [Function.comp]
    congr 1
    simp
    omega
  have hlen : ((zs.take len).map fun z => UInt8.ofNat z.toNat).length = len := by simp; omega
  have hblk : ∀ i, (a.add i).block = a.block := fun i => by unfold Addr.add; split <;> rfl
  refine ⟨(zs.take len).map fun z => UInt8.ofNat z.toNat, ?_⟩
  refine ⟨by simp [bcells], some a, cap, by rw [hlen], by rw [hlen]; exact hl, by unfold maxLen at hm; omega, Nat.le_refl _, (fun e => by cases e), ?_, ?_⟩
  · intro a' e hp
    cases e
    rw [hcs] at hp
    have hp' : 0 < len := by simp at hp; omega
    have := hcell 0 (by omega)
    refine ⟨Nat.zero_le _, ?_⟩
    have hb := hblk 0
    unfold World.cell? at this
    by_cases hlt : a.block < W.heap.size
    · exact hlt
    · rw [hb, show W.heap[a.block]? = none from by simp; omega] at this
      simp at this
  · intro j x hj
    refine ⟨a, rfl, ?_⟩
    rw [hcs] at hj
    rw [List.getElem?_map] at hj
    obtain ⟨z, hz1, rfl⟩ := Option.map_eq_some_iff.1 hj
    have hjl := (List.getElem?_eq_some_iff.1 hz1).1
    rw [List.length_take] at hjl
    rw [hcell j (by omega)]
    rw [List.getElem?_take] at hz1
    split at hz1
    · simp [List.getD, hz1]
    · cases hz1

set_option maxRecDepth 100000 in
theorem entryDecodes_lifted (os : Os) (started : os.Started) (H : Type) (enc : TypeId × Value → H) :
    ReturnsInHanded {} Tryd.checked os 3 .any (fun w args => (Rows.entryDecodesSpec.pre enc Tryd.prog Tryd.f3 [] false w args ∧ laidMetH Tryd.prog lE w) ∧ sizedMet enc Tryd.prog Tryd.f3 (OpenSpec.ofChange Rows.entryDecodesSpec) false w args)
      (Rows.entryDecodesSpec.post enc Tryd.prog Tryd.f3 false true false false) := by
  refine returnsInHanded_of_change_and_shaped (C := Tryd.checked) (X := fun w _ => laidMetH Tryd.prog lE w) (fun _ _ _ hh h => h.of_heap hh) r_own started (by kernel_rfl) Tryd.func3
    (ChangeSpec.witness_shaped (enc := enc) (C := Tryd.checked) (os := os) (X := fun w _ => laidMetH Tryd.prog lE w) false (World.doorLaid Tryd.prog 4000 os) #[.slice none 0 0] 8 rfl (World.shaped_of_RefB (by kernel_rfl) (by kernel_rfl)) (by kernel_rfl) (by kernel_rfl) (by kernel_rfl) (door_met os _)) ?_
  intro W base args ds gs before hval0 hW _ _ hL hsh _
  have hval : ∀ (j : Nat) t v, Tryd.f3.params[j]? = some t → args[j]? = some v → Value.okWide Tryd.prog W .any base t v := hval0
  have hW' := hW
  obtain ⟨p, q, hA0, hV, rfl, hfz, hnd⟩ := hW
  have hA : DataW.TrodAll enc Tryd.prog W 0 (fun _ => true) true Tryd.f3.params.toList args.toList ds p := hA0
  rw [show Tryd.f3.params = #[22] from by kernel_rfl] at hA hval
  obtain ⟨v0, d0, rfl, rfl, h0⟩ := trodAll_one hA
  obtain ⟨rfl, rfl⟩ := trodVars_none hV
  obtain ⟨a0, len, cap, rfl⟩ := okWide_slice rU22 (hval 0 22 v0 rfl rfl)
  have h0k := h0
  obtain ⟨fuel0, hf⟩ := h0
  clear hA0 hval0
  simp only [List.append_nil] at hW'
  have hlt : ∀ x ∈ p, x.block < W.heap.size := fun x hx => by simpa using hW'.lt x hx
  have hargs : ∀ (W' : World), Below W.heap.size W W' → DataW.Trod enc Tryd.prog W' 0 (fun b => decide (b < W.heap.size)) true 22 (.slice a0 len cap) d0 p :=
    fun W' hn => Below.trod r_laidOut (by kernel_rfl) (of_decide_eq_true (by kernel_rfl)) h0k hn hlt
  have hbs : ∃ b : Bytes, Bs W 0 W.heap.size (.slice a0 len cap) b := by
    rcases open_ints rU22 rU5 rC5 hf with ⟨hcs, hx⟩ | ⟨a, len', cap', zs, hcs, _, hl, hm, hz, hx, hcell, hwz⟩
    · simp [Value.cells] at hcs
      obtain ⟨rfl, rfl, rfl⟩ := hcs
      exact ⟨[], Sl.nil W 0 _ 1 (Nat.le_refl _)⟩
    · simp [Value.cells] at hcs
      obtain ⟨rfl, rfl, rfl⟩ := hcs
      exact r_bytes hl hm (by simpa using hz) hcell hwz
  obtain ⟨b, hb⟩ := hbs
  refine Calls.mono (entryDecodes_ok hb (r_gl hL hsh)) fun e W' ⟨v, he, hv, hc⟩ => ?_
  subst he; subst hv
  have hbl := hc.below
  exact ⟨_, rfl, _, _, _, [], p, [], hW', trodAll_mk1 (shut_bool rU4 true), trodAll_mk1 (hargs W' hbl), rfl, hbl.frame _, fun h => by cases h⟩

theorem entryDecodes_holds : Rows.EntryDecodesSaid :=
  OpenClaim.holds_of_wide 3 Tryd.f3 rfl rfl rfl rfl rfl rfl rfl ⟨rfl, rfl, rfl, rfl, rfl⟩ rfl rfl rfl rfl rfl (by kernel_rfl) Tryd.func3 (by kernel_rfl)
    (of_decide_eq_true (by kernel_rfl)) (by unfold Func.isWrapper; first | (rw [if_pos (by decide +kernel)]; kernel_rfl) | (rw [if_neg (by decide +kernel)]; exact ⟨rfl, rfl⟩))
    (fun os started H enc _ => entryDecodes_lifted os started H enc)
#print axioms entryDecodes_holds

end Go.Proofs.YtnjkdnbabogcjaaDoor
