/- MimeBack: the tied card: my own text. -/
import Derived.Test.YtnjkdnbabogcjaaDoorRMimeBack
import Derived.Test.YtnjkdnbabogcjaaDoorTie
import Derived.Test.YtnjkdnbabogcjaaDoorCards
import Derived.SevenTiedAt
namespace Go.Proofs.YtnjkdnbabogcjaaDoor
open Go
theorem mimeBack_card : Rows.MimeBackCardSaid :=
  Claim7.holds_tied_plain_at .later [] [.data, .data, .data, .sentinel, .sentinel] true (true, "9908f47fd202151bd8e8da685d25d0cdf719914ab06368f74eb1768821069e08") true
    mimeBack_holds (fun _ h => by cases h) (by kernel_rfl) (fun _ h => by cases h) mimeBack_row_tie rfl ⟨rfl, rfl⟩ (by kernel_rfl) rfl
    (fun f fn hf hfn => by
      obtain rfl : f = 5 := Option.some.inj ((show Tryd.prog.funcNamed "scriptorium/scriptoriumlaw11.MimeBack" = some 5 by kernel_rfl).symm.trans hf) |>.symm
      obtain rfl : fn = Tryd.f5 := (Option.some.inj (Tryd.func5.symm.trans hfn)).symm
      exact ⟨by kernel_rfl, fun j t ht => by
        rw [show Tryd.f5.params = #[26, 22] from by kernel_rfl] at ht
        rcases j with _ | _ | j
        · obtain rfl : t = 26 := by simpa using ht.symm
          exact (show Tryd.prog.wantsStandIn 26 = false by kernel_rfl)
        · obtain rfl : t = 22 := by simpa using ht.symm
          exact (show Tryd.prog.wantsStandIn 22 = false by kernel_rfl)
        · simp at ht⟩)
    (by kernel_rfl)
#print axioms mimeBack_card
end Go.Proofs.YtnjkdnbabogcjaaDoor
