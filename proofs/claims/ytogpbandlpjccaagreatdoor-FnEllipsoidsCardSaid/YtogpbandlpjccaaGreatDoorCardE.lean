/- The tied card of FnEllipsoids: for all bytes, the law answers yes (the axes and radii of the drawn ellipsoid fit together; its meridian arc is odd, and its growth is the radius of curvature), and its arguments stay as they were. Conditions: the variables of Go's library that the card lists start as its text lays them. -/
import Derived.Test.YtogpbandlpjccaaGreatDoorRowE
import Derived.Test.YtogpbandlpjccaaGreatDoorCards
import Derived.Test.YtogpbandlpjccaaGreatDoorTie
set_option linter.unusedSimpArgs false
set_option linter.unusedVariables false
namespace Go.Proofs.YtogpbandlpjccaaGreatDoor
open Go
theorem fnEllipsoids_holds : Rows.FnEllipsoidsCardSaid :=
 Claim7.holds_tied_plain_at .later [] [.data, .data, .data, .sentinel, .sentinel] true (true, "7126aaff38339a7bbe7637724bfdd5afed46376b17e9f3f16c5ea093ae6dd054") true
  RE.row (fun _ h => by cases h) (by kernel_rfl) (fun _ h => by cases h) fnEllipsoids_row_tie rfl ⟨rfl, rfl⟩ (by kernel_rfl) rfl
  (fun f fn hf hfn => by
   obtain rfl : f = 5 := Option.some.inj ((show Tryz.prog.funcNamed "loop.example/g00880/laws.FnEllipsoids" = some 5 by kernel_rfl).symm.trans hf) |>.symm
   obtain rfl : fn = Tryz.f5 := (Option.some.inj (Tryz.func5.symm.trans hfn)).symm
   exact ⟨by kernel_rfl, fun j t ht => by
    rw [Tryz.params5] at ht
    have hm : t ∈ [22, 22] := by simpa using Array.mem_of_getElem? ht
    have hall : ([22, 22].all fun u => !Tryz.prog.wantsStandIn u) = true := by kernel_rfl
    exact (show Tryz.prog.wantsStandIn t = false by simpa using List.all_eq_true.1 hall t hm)⟩)
  (by kernel_rfl)
end Go.Proofs.YtogpbandlpjccaaGreatDoor
