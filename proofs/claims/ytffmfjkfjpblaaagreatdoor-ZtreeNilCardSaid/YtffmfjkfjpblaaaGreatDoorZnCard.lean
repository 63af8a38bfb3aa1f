/-
  THE TIED CARD of 'lagoonlaw07.ZtreeNil'.
-/
import Derived.Test.YtffmfjkfjpblaaaGreatDoorZnProof
import Derived.Test.YtffmfjkfjpblaaaGreatDoorCards
import Derived.Test.YtffmfjkfjpblaaaGreatDoorTie
import Derived.SevenTiedAt
namespace Go.Proofs.YtffmfjkfjpblaaaGreatDoor
open Go

theorem ztreeNil : Rows.ZtreeNilCardSaid :=
  Claim7.holds_tied_plain_at .later [] [.data, .data, .data, .data, .sentinel, .sentinel, .data, .pinned] true (true, "1b12727c61d8c280e7ae76afb1f0f6b19011e2050fa867fd897a706f6bd3542c") true
    over (fun _ h => by cases h) (by kernel_rfl) (fun _ h => by cases h) ztreeNil_row_tie rfl ⟨rfl, rfl⟩ (by kernel_rfl) rfl
    (fun f fn hf hfn => by
      obtain rfl : f = 3 := Option.some.inj ((show Tryz.prog.funcNamed "lagoon/lagoonlaw07.ZtreeNil" = some 3 by kernel_rfl).symm.trans hf) |>.symm
      obtain rfl : fn = Tryz.f3 := (Option.some.inj (Tryz.func3.symm.trans hfn)).symm
      exact ⟨by kernel_rfl, fun j t ht => by
        rw [Tryz.params3] at ht
        have hm : t ∈ [35, 33, 2] := by simpa using Array.mem_of_getElem? ht
        have hall : ([35, 33, 2].all fun u => !Tryz.prog.wantsStandIn u) = true := by kernel_rfl
        exact (show Tryz.prog.wantsStandIn t = false by simpa using List.all_eq_true.1 hall t hm)⟩)
    (by kernel_rfl)
#print axioms ztreeNil
end Go.Proofs.YtffmfjkfjpblaaaGreatDoor
