/- MimeReads: the tied card: my own text. -/
import Derived.Test.YtnjkdnbabogcjaaDoorRMimeReads
import Derived.Test.YtnjkdnbabogcjaaDoorTie
import Derived.Test.YtnjkdnbabogcjaaDoorCards
import Derived.SevenTiedAt
namespace Go.Proofs.YtnjkdnbabogcjaaDoor
open Go
theorem mimeReads_card : Rows.MimeReadsCardSaid :=
  Claim7.holds_tied_plain_at .later [] [.data, .data, .data, .sentinel, .sentinel] true (true, "9908f47fd202151bd8e8da685d25d0cdf719914ab06368f74eb1768821069e08") true
    mimeReads_holds (fun _ h => by cases h) (by kernel_rfl) (fun _ h => by cases h) mimeReads_row_tie rfl ⟨rfl, rfl⟩ (by kernel_rfl) rfl
    (fun f fn hf hfn => by
      obtain rfl : f = 4 := Option.some.inj ((show Tryd.prog.funcNamed "scriptorium/scriptoriumlaw11.MimeReads" = some 4 by kernel_rfl).symm.trans hf) |>.symm
      obtain rfl : fn = Tryd.f4 := (Option.some.inj (Tryd.func4.symm.trans hfn)).symm
      exact ⟨by kernel_rfl, fun j t ht => by
        rw [show Tryd.f4.params = #[22] from by kernel_rfl] at ht
        rcases j with _ | j
        · obtain rfl : t = 22 := by simpa using ht.symm
          exact (show Tryd.prog.wantsStandIn 22 = false by kernel_rfl)
        · simp at ht⟩)
    (by kernel_rfl)
#print axioms mimeReads_card
end Go.Proofs.YtnjkdnbabogcjaaDoor
