/-
  THE TIED CARD of 'lagoonlaw08.DigestNodes'.
-/

import Derived.Test.YthopfmokkpoabaaGreatDoorDnP
import Derived.Test.YthopfmokkpoabaaGreatDoorCards
import Derived.Test.YthopfmokkpoabaaGreatDoorTie
import Derived.SevenTiedAt
namespace Go.Proofs.YthopfmokkpoabaaGreatDoor
open Go

theorem digestNodes : Rows.DigestNodesCardSaid :=
  Claim7.holds_tied_plain_at .later [] [.data, .data, .data, .data, .sentinel, .sentinel, .data, .pinned] true (true, "fef36adde9affe981fca456411a6744b622d1df21d4071e73207f5e2348cc178") true
    over (fun _ h => by cases h) (by kernel_rfl) (fun _ h => by cases h) digestNodes_row_tie rfl ⟨rfl, rfl⟩ (by kernel_rfl) rfl
    (fun f fn hf hfn => by
      obtain rfl : f = 3 := Option.some.inj ((show Tryz.prog.funcNamed "lagoon/lagoonlaw08.DigestNodes" = some 3 by kernel_rfl).symm.trans hf) |>.symm
      obtain rfl : fn = Tryz.f3 := (Option.some.inj (Tryz.func3.symm.trans hfn)).symm
      exact ⟨by kernel_rfl, fun j t ht => by
        rw [Tryz.params3] at ht
        have hm : t ∈ [22] := by
          have := Array.mem_of_getElem? ht
          simp at this ⊢
          omega
        have hall : ([22].all fun u => !Tryz.prog.wantsStandIn u) = true := by kernel_rfl
        exact (show Tryz.prog.wantsStandIn t = false by simpa using List.all_eq_true.1 hall t hm)⟩)
    (by kernel_rfl)
#print axioms digestNodes
end Go.Proofs.YthopfmokkpoabaaGreatDoor
