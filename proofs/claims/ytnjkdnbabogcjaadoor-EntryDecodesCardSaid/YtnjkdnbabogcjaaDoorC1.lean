/- EntryDecodes: the tied card. -/
import Derived.Test.YtnjkdnbabogcjaaDoorR1
import Derived.Test.YtnjkdnbabogcjaaDoorTie
import Derived.Test.YtnjkdnbabogcjaaDoorCards
import Derived.SevenTiedAt
namespace Go.Proofs.YtnjkdnbabogcjaaDoor
open Go

theorem entryDecodes_card : Rows.EntryDecodesCardSaid :=
  Claim7.holds_tied_plain_at .later [] [.data, .data, .data, .sentinel, .sentinel] true (true, "9908f47fd202151bd8e8da685d25d0cdf719914ab06368f74eb1768821069e08") true
    entryDecodes_holds (fun _ h => by cases h) (by kernel_rfl) (fun _ h => by cases h) entryDecodes_row_tie rfl ⟨rfl, rfl⟩ (by kernel_rfl) rfl
    (fun f fn hf hfn => by
      obtain rfl : f = 3 := Option.some.inj ((show Tryd.prog.funcNamed "scriptorium/scriptoriumlaw15.EntryDecodes" = some 3 by kernel_rfl).symm.trans hf) |>.symm
      obtain rfl : fn = Tryd.f3 := (Option.some.inj (Tryd.func3.symm.trans hfn)).symm
      exact ⟨by kernel_rfl, fun j t ht => by
        rw [show Tryd.f3.params = #[22] from by kernel_rfl] at ht
        have h3 : t = 22 := by
          rcases j with _ | j
          · simpa using ht.symm
          · simp at ht
        subst h3
        exact (show Tryd.prog.wantsStandIn 22 = false by kernel_rfl)⟩)
    (by kernel_rfl)
#print axioms entryDecodes_card
end Go.Proofs.YtnjkdnbabogcjaaDoor
