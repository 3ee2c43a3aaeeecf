/- The tied card of FnPoints: for all bytes, the law answers yes (points and angles are restored from their texts; differences of longitudes have opposite signs, except for half a turn; the antipode of the antipode is at the same place), and its arguments stay as they were. Conditions: the variables of Go's library that the card lists start as its text lays them. -/
import Derived.Test.YtogpbandlpjccaaGreatDoorRowP
import Derived.Test.YtogpbandlpjccaaGreatDoorCards
import Derived.Test.YtogpbandlpjccaaGreatDoorTie
set_option linter.unusedSimpArgs false
set_option linter.unusedVariables false
namespace Go.Proofs.YtogpbandlpjccaaGreatDoor
open Go
theorem fnPoints_holds : Rows.FnPointsCardSaid :=
  Claim7.holds_tied_plain_at .later [] [.data, .data, .data, .data, .pinned] true (true, "7126aaff38339a7bbe7637724bfdd5afed46376b17e9f3f16c5ea093ae6dd054") true
    TX.fnPoints.row (fun _ h => by cases h) (by kernel_rfl) (fun _ h => by cases h) fnPoints_row_tie rfl ⟨rfl, rfl⟩ (by kernel_rfl) rfl
    (fun f fn hf hfn => by
      obtain rfl : f = 4 := Option.some.inj ((show Tryz.prog.funcNamed "loop.example/g00880/laws.FnPoints" = some 4 by kernel_rfl).symm.trans hf) |>.symm
      obtain rfl : fn = Tryz.f4 := (Option.some.inj (Tryz.func4.symm.trans hfn)).symm
      exact ⟨by kernel_rfl, fun j t ht => by
        rw [Tryz.params4] at ht
        have hm : t ∈ [22, 22] := by simpa using Array.mem_of_getElem? ht
        have hall : ([22, 22].all fun u => !Tryz.prog.wantsStandIn u) = true := by kernel_rfl
        exact (show Tryz.prog.wantsStandIn t = false by simpa using List.all_eq_true.1 hall t hm)⟩)
    (by kernel_rfl)
end Go.Proofs.YtogpbandlpjccaaGreatDoor
