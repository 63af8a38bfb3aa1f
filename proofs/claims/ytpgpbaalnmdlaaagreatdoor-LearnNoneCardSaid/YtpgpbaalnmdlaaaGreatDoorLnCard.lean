/-
  THE TIED CARD of 'lagoonlaw17.LearnNone'.
-/
import Derived.Test.YtpgpbaalnmdlaaaGreatDoorLnProof
import Derived.Test.YtpgpbaalnmdlaaaGreatDoorCards
import Derived.Test.YtpgpbaalnmdlaaaGreatDoorTie
import Derived.SevenTiedAt
namespace Go.Proofs.YtpgpbaalnmdlaaaGreatDoor
open Go

theorem learnNone : Rows.LearnNoneCardSaid :=
  Claim7.holds_tied_plain_at .later [] [.data, .data, .data, .data, .sentinel, .sentinel, .data, .data, .pinned] true (true, "5777fdc5fd9195954fb62bc24002bc015fca02c63840803c0787ff3dd5e8dc89") true
    over (fun _ h => by cases h) (by kernel_rfl) (fun _ h => by cases h) learnNone_row_tie rfl ⟨rfl, rfl⟩ (by kernel_rfl) rfl
    (fun f fn hf hfn => by
      obtain rfl : f = 3 := Option.some.inj ((show Tryz.prog.funcNamed "lagoon/lagoonlaw17.LearnNone" = some 3 by kernel_rfl).symm.trans hf) |>.symm
      obtain rfl : fn = Tryz.f3 := (Option.some.inj (Tryz.func3.symm.trans hfn)).symm
      exact ⟨by kernel_rfl, fun j t ht => by
        rw [Tryz.params3] at ht
        have hm : t ∈ [39] := by simpa using Array.mem_of_getElem? ht
        have hall : ([39].all fun u => !Tryz.prog.wantsStandIn u) = true := by kernel_rfl
        exact (show Tryz.prog.wantsStandIn t = false by simpa using List.all_eq_true.1 hall t hm)⟩)
    (by kernel_rfl)
#print axioms learnNone
end Go.Proofs.YtpgpbaalnmdlaaaGreatDoor
