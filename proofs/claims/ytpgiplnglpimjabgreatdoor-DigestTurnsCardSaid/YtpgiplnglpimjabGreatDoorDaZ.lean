/-
  THE TIED CARD of 'lagoonlaw08.DigestTurns'.
-/

import Derived.Test.YtpgiplnglpimjabGreatDoorDaP
import Derived.Test.YtpgiplnglpimjabGreatDoorCards
import Derived.Test.YtpgiplnglpimjabGreatDoorTie
import Derived.SevenTiedAt
namespace Go.Proofs.YtpgiplnglpimjabGreatDoor
open Go

theorem digestTurns : Rows.DigestTurnsCardSaid :=
  Claim7.holds_tied_plain_at .later [] [.data, .data, .data, .data, .sentinel, .sentinel, .data, .pinned] true (true, "3a4b617afac053db738297e54b2650e184bcc3f8372dc4ad5f89aac09f3a3660") true
    over (fun _ h => by cases h) (by kernel_rfl) (fun _ h => by cases h) digestTurns_row_tie rfl ⟨rfl, rfl⟩ (by kernel_rfl) rfl
    (fun f fn hf hfn => by
      obtain rfl : f = 3 := Option.some.inj ((show Tryz.prog.funcNamed "lagoon/lagoonlaw08.DigestTurns" = some 3 by kernel_rfl).symm.trans hf) |>.symm
      obtain rfl : fn = Tryz.f3 := (Option.some.inj (Tryz.func3.symm.trans hfn)).symm
      exact ⟨by kernel_rfl, fun j t ht => by
        rw [Tryz.params3] at ht
        have hm : t ∈ [22, 23] := by
          have := Array.mem_of_getElem? ht
          simp at this ⊢
          omega
        have hall : ([22, 23].all fun u => !Tryz.prog.wantsStandIn u) = true := by kernel_rfl
        exact (show Tryz.prog.wantsStandIn t = false by simpa using List.all_eq_true.1 hall t hm)⟩)
    (by kernel_rfl)
#print axioms digestTurns
end Go.Proofs.YtpgiplnglpimjabGreatDoor
