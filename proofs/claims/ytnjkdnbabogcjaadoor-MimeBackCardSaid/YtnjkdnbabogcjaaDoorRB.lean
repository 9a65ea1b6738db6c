/- What rows need: laid variables, arguments opened: my own text. -/
import Derived.Test.YtnjkdnbabogcjaaDoorRows
import Derived.Test.YtnjkdnbabogcjaaDoorL0
import Derived.Test.YtnjkdnbabogcjaaDoorR0
import Derived.Shelf.Vars
import Derived.LaidMore
import Derived.OpenShut
import Derived.SliceStrings
import Derived.Stop.Joined
import Derived.ProofKit
set_option linter.unusedVariables false
set_option linter.unusedSimpArgs false
namespace Go.Proofs.YtnjkdnbabogcjaaDoor
open Go Go.ChangeShapes Go.WideShapes Go.ChangeAt Go.RowKit Go.Kw

theorem r_own : ownKnob Tryd.prog.godebug = none := by kernel_rfl
theorem r_laidOut : laidOutB Tryd.prog = true := by kernel_rfl
theorem rU4 : Tryd.prog.underlying 4 = some .bool := by kernel_rfl
def isIfaceT (P : Program) (t : TypeId) : Bool := match P.underlying t with | some (.interface _) => true | _ => false
theorem isIfaceT_eq {P : Program} {t : TypeId} (h : isIfaceT P t = true) : ∃ ms, P.underlying t = some (.interface ms) := by
  unfold isIfaceT at h
  split at h
  · exact ⟨_, by assumption⟩
  · cases h
theorem r_size {w : World} (h : w.ShapedOpen Tryd.prog) : NG ≤ w.heap.size := by
  have h7 : (((begin Tryd.prog (fun _ _ => 0) default).world.heap[7]?).bind Obj.row?).isSome = true := by kernel_rfl
  obtain ⟨⟨z, t⟩, hz⟩ := Option.isSome_iff_exists.1 h7
  obtain ⟨cs, hh, _⟩ := h.1 7 z t (Nat.le_of_ble_eq_true (by kernel_rfl)) hz
  have := (Array.getElem?_eq_some_iff.1 hh).1
  show 8 ≤ w.heap.size
  omega

theorem iface_of_trod {P : Program} {w : World} {fuel : Nat} {t : TypeId} {cs : List Value} {nm : String} {d : DataW Unit} {p : List MemPlace} (ht : isIfaceT P t = true)
    (h : DataW.trod (fun _ => ()) P w 0 (fun _ => true) false fuel t cs = some (.iface nm d, p)) : ∃ u v, cs = [.iface u v] := by
  obtain ⟨ms, hu⟩ := isIfaceT_eq ht
  cases fuel with
  | zero => simp [DataW.trod] at h
  | succ fuel =>
    unfold DataW.trod at h
    rw [hu] at h
    split at h <;> simp_all
theorem cell_of_var {P : Program} {w : World} {n : String} {g : Nat} {cs : Array Value} (hg : P.globalNamed n = some g) (h : w.var? P n = some cs) (i : Nat) : w.cell? ⟨g, i, none⟩ = cs[i]? := by
  unfold World.var? at h
  rw [hg] at h
  simp only [Option.bind_some] at h
  unfold World.cell?
  split at h <;> simp_all
theorem err_of_laid {P : Program} {w : World} {n : String} {g : Nat} {t : TypeId} {cs : Array Value} {fuel : Nat} {nm : String} {d : DataW Unit} {p : List MemPlace} (hg : P.globalNamed n = some g) (ht : isIfaceT P t = true) (hv : w.var? P n = some cs)
    (hd : DataW.trod (fun _ => ()) P w 0 (fun _ => true) false fuel t cs.toList = some (.iface nm d, p)) : ∃ ev, w.cell? ⟨g, 0, none⟩ = some ev ∧ (ev = .nilIface ∨ ∃ te pe, ev = .iface te pe) := by
  obtain ⟨u, v, e⟩ := iface_of_trod ht hd
  refine ⟨.iface u v, ?_, .inr ⟨u, v, rfl⟩⟩
  rw [cell_of_var hg hv, ← Array.getElem?_toList, e]
  rfl
/-- A laid variable. -/
theorem laid_get {P : Program} {w : World} {n : String} {d : DataW Unit} : ∀ {laid : List (String × DataW Unit)} {ps : List MemPlace}, (n, d) ∈ laid → DataW.LaidVars P w laid ps →
    ∃ g t cs fuel p, P.globalNamed n = some g ∧ (P.globals[g]?).map (·.type) = some t ∧ w.var? P n = some cs ∧ DataW.trod (fun _ => ()) P w 0 (fun _ => true) false fuel t cs.toList = some (d, p)
  | [], _, hm, _ => by cases hm
  | (n', d') :: r, ps, hm, h => by
    obtain ⟨g, t, cs, fuel, p, q, h1, h2, h3, h4, h5, _⟩ := h
    rcases List.mem_cons.1 hm with e | hm
    · injection e with e1 e2
      subst e1; subst e2
      exact ⟨g, t, cs, fuel, p, h1, h2, h3, h4⟩
    · exact laid_get hm h5
theorem laidH_get {P : Program} {w : World} {n : String} {d : DataW Unit} {laid : List (String × DataW Unit)} (hp : (laid.all fun x => x.2.handleName?.isNone) = true) (hm : (n, d) ∈ laid) (h : laidMetH P laid w) :
    ∃ g t cs fuel p, P.globalNamed n = some g ∧ (P.globals[g]?).map (·.type) = some t ∧ w.var? P n = some cs ∧ DataW.trod (fun _ => ()) P w 0 (fun _ => true) false fuel t cs.toList = some (d, p) := by
  rw [MakeChecks.laidMetH_plain _ _ _ hp] at h
  obtain ⟨ps, h, _⟩ := h
  exact laid_get hm h
theorem r_gl {w : World} {laid : List (String × DataW Unit)} (hp : (laid.all fun x => x.2.handleName?.isNone) = true) (h : laidMetH Tryd.prog laid w) (hs : w.ShapedOpen Tryd.prog)
    (m1 : ("internal/strconv.uint64pow10", Rows.laid_internal_strconv_uint64pow10) ∈ laid) (m2 : ("strconv.ErrRange", Rows.laid_strconv_ErrRange) ∈ laid) (m3 : ("strconv.ErrSyntax", Rows.laid_strconv_ErrSyntax) ∈ laid) : Gl w := by
  refine ⟨r_size hs, cell_of_shapedOpen_int (t := 3) (zero := #[.int .i64 0]) hs (Nat.le_of_ble_eq_true (by kernel_rfl)) (by kernel_rfl) rfl (by kernel_rfl) (by kernel_rfl) (by kernel_rfl), ?_, ?_, ?_⟩
  · obtain ⟨g, t, cs, fuel, p, hg, ht, hv, hd⟩ := laidH_get hp m3 h
    obtain rfl := Option.some.inj ((show Tryd.prog.globalNamed "strconv.ErrSyntax" = some 1 by kernel_rfl).symm.trans hg)
    obtain rfl := Option.some.inj ((show (Tryd.prog.globals[1]?).map (·.type) = some 75 by kernel_rfl).symm.trans ht)
    exact err_of_laid hg (by kernel_rfl) hv hd
  · obtain ⟨g, t, cs, fuel, p, hg, ht, hv, hd⟩ := laidH_get hp m2 h
    obtain rfl := Option.some.inj ((show Tryd.prog.globalNamed "strconv.ErrRange" = some 2 by kernel_rfl).symm.trans hg)
    obtain rfl := Option.some.inj ((show (Tryd.prog.globals[2]?).map (·.type) = some 75 by kernel_rfl).symm.trans ht)
    exact err_of_laid hg (by kernel_rfl) hv hd
  · obtain ⟨g, t, cs, fuel, p, hg, ht, hv, hd⟩ := laidH_get hp m1 h
    obtain rfl := Option.some.inj ((show Tryd.prog.globalNamed "internal/strconv.uint64pow10" = some 3 by kernel_rfl).symm.trans hg)
    obtain rfl := Option.some.inj ((show (Tryd.prog.globals[3]?).map (·.type) = some 200 by kernel_rfl).symm.trans ht)
    unfold Lib.TabIs
    rw [hv, ← Lib.cells_of_tab (n := 20) (e := 159) (k := .u64) (zs := Lib.pow10Tab) (p := p) (by kernel_rfl) (by kernel_rfl) (by kernel_rfl) (by kernel_rfl) hd]

/-! ### Arguments opened -/
/-- The bytes that came in. -/
theorem r_bytes {W : World} {a : Addr} {len cap : Nat} {zs : List Int} (hl : len ≤ cap) (hm : cap ≤ maxLen) (hz : zs.length = cap) (hcell : ∀ i, i < zs.length → W.cell? (a.add i) = some (.int .u8 (zs.getD i 0))) (hw : ∀ n ∈ zs, (Lit.int .u8 n).wf = true) :
    ∃ b : Bytes, Bs W 0 W.heap.size (.slice (some a) len cap) b := by
  have hcs : bcells ((zs.take len).map fun z => UInt8.ofNat z.toNat) = (zs.take len).map fun z => Value.int .u8 z := by
    unfold bcells
    rw [List.map_map]
    refine List.map_congr_left fun z hz' => ?_
    have hwf := hw z (List.mem_of_mem_take hz')
    have h2 : 0 ≤ z ∧ z < 256 := by
      have e1 : IntKind.u8.min = 0 := rfl
      have e2 : IntKind.u8.max = 255 := rfl
      simp [Lit.wf] at hwf
      omega
    simp only [Function.comp]
    congr 1
    simp
    omega
  have hlen : ((zs.take len).map fun z => UInt8.ofNat z.toNat).length = len := by simp; omega
  have hblk : ∀ i, (a.add i).block = a.block := fun i => by unfold Addr.add; split <;> rfl
  refine ⟨(zs.take len).map fun z => UInt8.ofNat z.toNat, ?_⟩
  refine ⟨by simp [bcells], some a, cap, by rw [hlen], by rw [hlen]; exact hl, by unfold maxLen at hm; omega, Nat.le_refl _, (fun e => by cases e), ?_, ?_⟩
  · intro a' e hp
    cases e
    rw [hcs] at hp
    have hp' : 0 < len := by simp at hp; omega
    have := hcell 0 (by omega)
    refine ⟨Nat.zero_le _, ?_⟩
    have hb := hblk 0
    unfold World.cell? at this
    by_cases hlt : a.block < W.heap.size
    · exact hlt
    · rw [hb, show W.heap[a.block]? = none from by simp; omega] at this
      simp at this
  · intro j x hj
    refine ⟨a, rfl, ?_⟩
    rw [hcs] at hj
    rw [List.getElem?_map] at hj
    obtain ⟨z, hz1, rfl⟩ := Option.map_eq_some_iff.1 hj
    have hjl := (List.getElem?_eq_some_iff.1 hz1).1
    rw [List.length_take] at hjl
    rw [hcell j (by omega)]
    rw [List.getElem?_take] at hz1
    split at hz1
    · simp [List.getD, hz1]
    · cases hz1

/-- All weights are within reach. -/
def Small {H : Type} (P : Program) (t : TypeId) (d : DataW H) : Prop := ∀ n, n ∈ d.weights P t → n ≤ reachBytes
theorem mem_weightsAll {H : Type} {P : Program} {e : TypeId} {d : DataW H} {n : Nat} (hn : n ∈ d.weights P e) : ∀ {ds : List (DataW H)}, d ∈ ds → n ∈ DataW.weightsAll P e ds
  | [], h => by cases h
  | d' :: r, h => by
    unfold DataW.weightsAll
    rw [List.mem_append]
    rcases List.mem_cons.1 h with rfl | h
    · exact .inl hn
    · exact .inr (mem_weightsAll hn h)
theorem mem_weightsEach {H : Type} {P : Program} {n : Nat} : ∀ {ts : List TypeId} {ds : List (DataW H)} {i : Nat} {t : TypeId} {d : DataW H}, ts[i]? = some t → ds[i]? = some d → n ∈ d.weights P t → n ∈ DataW.weightsEach P ts ds
  | [], _, i, _, _, h, _, _ => by simp at h
  | _ :: _, [], i, _, _, _, h, _ => by simp at h
  | t' :: ts, d' :: ds, 0, t, d, h1, h2, hn => by
    simp at h1 h2
    subst h1; subst h2
    unfold DataW.weightsEach
    rw [List.mem_append]; exact .inl hn
  | t' :: ts, d' :: ds, i + 1, t, d, h1, h2, hn => by
    unfold DataW.weightsEach
    rw [List.mem_append]; exact .inr (mem_weightsEach (i := i) (by simpa using h1) (by simpa using h2) hn)
theorem small_of {H : Type} {P : Program} {ts : List TypeId} {ds : List (DataW H)} (h : (DataW.weightsEach P ts ds).all (· ≤ reachBytes) = true) {i : Nat} {t : TypeId} {d : DataW H} (h1 : ts[i]? = some t) (h2 : ds[i]? = some d) : Small P t d := fun n hn => by
  have := List.all_eq_true.1 h n (mem_weightsEach h1 h2 hn)
  simpa using this
section
variable {H : Type} {enc : TypeId × Value → H} {P : Program} {w : World} {fuel : Nat} {t : TypeId} {cs : List Value} {x : DataW H × List MemPlace} {sp : Nat → Bool} {held : Bool}
theorem rd_int {k : IntKind} (ht : P.underlying t = some (.int k)) (h : DataW.trod enc P w 0 sp held fuel t cs = some x) : ∃ n, cs = [.int k n] ∧ k.min ≤ n ∧ n ≤ k.max := by
  obtain ⟨n, h1, _, h2⟩ := DataW.trod_int ht h
  refine ⟨n, h1, ?_⟩
  simpa [Lit.wf] using h2
theorem rd_str (ht : P.underlying t = some .string) (h : DataW.trod enc P w 0 sp held fuel t cs = some x) (hs : Small P t x.1) : ∃ s : Bytes, cs = [S s] ∧ s.length ≤ reachBytes := by
  obtain ⟨s, h1, h2, h3⟩ := DataW.trod_string ht h
  refine ⟨s.data.toList, by rw [h1], ?_⟩
  rw [h2] at hs
  exact hs _ (by unfold DataW.weights; simp)
theorem rd_struct {fs : Array Field} (ht : P.underlying t = some (.struct fs)) (h : DataW.trod enc P w 0 sp held fuel t cs = some x) (hs : Small P t x.1) : cs.length = P.cellsOf t ∧
    ∀ (i : Nat) ft off, (fs[i]?).map (fun f => (f.type, f.offset)) = some (ft, off) → ∃ n y, DataW.trod enc P w 0 sp held n ft ((cs.drop off).take (P.cellsOf ft)) = some y ∧ Small P ft y.1 := by
  obtain ⟨xs, n, _, h1, h2, h3, h4⟩ := DataW.trod_struct ht h
  refine ⟨h2, fun i ft off hf => ?_⟩
  obtain ⟨f, hf1, hf2⟩ := Option.map_eq_some_iff.1 hf
  injection hf2 with e1 e2
  subst e1; subst e2
  have hi : i < fs.size := (Array.getElem?_eq_some_iff.1 hf1).1
  refine ⟨n, xs[i]'(by omega), by rw [h4 i f hf1]; simp [h3, hi], fun m hm => ?_⟩
  rw [h1] at hs
  refine hs m ?_
  unfold DataW.weights
  rw [ht]
  refine mem_weightsEach (i := i) (t := f.type) (d := (xs[i]'(by omega)).1) ?_ ?_ hm
  · simp [← Array.getElem?_toList] at hf1 ⊢
    exact ⟨f, hf1, rfl⟩
  · simp [h3, hi]
theorem sl_of_cells {a : Addr} {len cap sz : Nat} (hl : len ≤ cap) (hm : cap ≤ maxLen) {vs : List Value} (hv : vs.length = len * sz) (hcell : ∀ j u, vs[j]? = some u → w.cell? (a.add j) = some u) : Sl w 0 w.heap.size (.slice (some a) len cap) sz len vs := by
  have hblk : ∀ i, (a.add i).block = a.block := fun i => by unfold Addr.add; split <;> rfl
  refine ⟨hv, some a, cap, rfl, hl, by unfold maxLen at hm; omega, Nat.le_refl _, (fun e => by cases e), ?_, fun j u hj => ⟨a, rfl, hcell j u hj⟩⟩
  intro a' e hp
  cases e
  have := hcell 0 vs[0] (by simp [hp])
  refine ⟨Nat.zero_le _, ?_⟩
  have hb := hblk 0
  unfold World.cell? at this
  by_cases hlt : a.block < w.heap.size
  · exact hlt
  · rw [hb, show w.heap[a.block]? = none from by simp; omega] at this
    simp at this
theorem rd_bytes {e : TypeId} (ht : P.underlying t = some (.slice e)) (he : P.underlying e = some (.int .u8)) (hc : P.cellsOf e = 1) (h : DataW.trod enc P w 0 (fun _ => true) held fuel t cs = some x) : ∃ (v : Value) (b : Bytes), cs = [v] ∧ Bs w 0 w.heap.size v b := by
  rcases open_ints ht he hc h with ⟨hcs, hx⟩ | ⟨a, len, cap, zs, hcs, _, hl, hm, hz, hx, hcell, hwz⟩
  · exact ⟨_, [], hcs, Sl.nil w 0 _ 1 (Nat.le_refl _)⟩
  · obtain ⟨b, hb⟩ := r_bytes hl hm (by simpa using hz) hcell hwz
    exact ⟨_, b, hcs, hb⟩
theorem rd_strs {e : TypeId} (ht : P.underlying t = some (.slice e)) (he : P.underlying e = some .string) (hc : P.cellsOf e = 1) (h : DataW.trod enc P w 0 (fun _ => true) held fuel t cs = some x) (hs : Small P t x.1) :
    ∃ (v : Value) (ls : List Bytes), cs = [v] ∧ Ss w 0 w.heap.size v ls ∧ ∀ s, s ∈ ls → s.length ≤ reachBytes := by
  rcases open_strings ht he hc h with ⟨hcs, hx⟩ | ⟨a, len, cap, ss, hcs, _, hl, hm, hz, hx, hcell, hws⟩
  · exact ⟨_, [], hcs, Sl.nil w 0 _ 1 (Nat.le_refl _), fun s hs => by cases hs⟩
  · have hz : ss.length = cap := by simpa using hz
    have hlen : ((ss.take len).map fun s => s.data.toList).length = len := by simp; omega
    refine ⟨_, (ss.take len).map fun s => s.data.toList, hcs, ?_, ?_⟩
    · show Sl w 0 w.heap.size _ 1 _ _
      rw [hlen]
      refine sl_of_cells hl hm (by simp; omega) (fun j u hj => ?_)
      rw [List.getElem?_map, List.getElem?_map, List.getElem?_take] at hj
      split at hj
      · rename_i hjl
        rw [hcell j (by omega)]
        have hlt : j < ss.length := by omega
        rw [List.getElem?_eq_getElem hlt] at hj
        simp at hj
        rw [← hj]
        simp [List.getD_eq_getElem?_getD, hlt]
      · simp at hj
    · intro s hm2
      obtain ⟨b, hb, rfl⟩ := List.mem_map.1 hm2
      rw [hx] at hs
      refine hs _ ?_
      unfold DataW.weights
      rw [ht]
      refine List.mem_cons_of_mem _ (List.mem_append_left _ ?_)
      refine mem_weightsAll (d := .lit (.string b.data.toList)) ?_ (List.mem_map.2 ⟨b, hb, rfl⟩)
      unfold DataW.weights
      simp
end
end Go.Proofs.YtnjkdnbabogcjaaDoor
