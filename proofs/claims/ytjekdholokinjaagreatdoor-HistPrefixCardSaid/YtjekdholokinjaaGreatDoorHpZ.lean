/-
  THE TIED CARD of 'lagoonlaw27.HistPrefix'.
-/

import Derived.Test.YtjekdholokinjaaGreatDoorHpP
import Derived.Test.YtjekdholokinjaaGreatDoorCards
import Derived.Test.YtjekdholokinjaaGreatDoorTie
import Derived.SevenTiedAt
namespace Go.Proofs.YtjekdholokinjaaGreatDoor
open Go

theorem histPrefix : Rows.HistPrefixCardSaid :=
  Claim7.holds_tied_plain_at .later [] [.data, .data, .data, .data, .sentinel, .sentinel, .data, .pinned] true (true, "c29c7bacebdd2ef1acab922029dddd6763da4d8b0e6e5f7e1ac8d6fd13cec8eb") true
    over (fun _ h => by cases h) (by kernel_rfl) (fun _ h => by cases h) histPrefix_row_tie rfl ⟨rfl, rfl⟩ (by kernel_rfl) rfl
    (fun f fn hf hfn => by
      obtain rfl : f = 3 := Option.some.inj ((show Tryz.prog.funcNamed "lagoon/lagoonlaw27.HistPrefix" = some 3 by kernel_rfl).symm.trans hf) |>.symm
      obtain rfl : fn = Tryz.f3 := (Option.some.inj (Tryz.func3.symm.trans hfn)).symm
      exact ⟨by kernel_rfl, fun j t ht => by
        rw [Tryz.params3] at ht
        have hm : t ∈ [22] := by
          have := Array.mem_of_getElem? ht
          simp at this ⊢
          omega
        have hall : ([22].all fun u => !Tryz.prog.wantsStandIn u) = true := by kernel_rfl
        exact (show Tryz.prog.wantsStandIn t = false by simpa using List.all_eq_true.1 hall t hm)⟩)
    (by kernel_rfl)
#print axioms histPrefix
end Go.Proofs.YtjekdholokinjaaGreatDoor
