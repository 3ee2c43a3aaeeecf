/- The tied card: The program's ReadAngle returns what the reference's returns, for all texts of at most 1048576 bytes. Go's package variables that it lists start as the program's text lays them; the card speaks of the pruned copy of the project. -/
import Derived.Test.YtoncbpohjdackaaDoorRReadAngle
import Derived.Test.YtoncbpohjdackaaDoorCards
import Derived.Test.YtoncbpohjdackaaDoorTie
set_option linter.unusedSimpArgs false
set_option linter.unusedVariables false
namespace Go.Proofs.YtoncbpohjdackaaDoor
open Go
theorem fnExactReadAngle_holds : Rows.FnExactReadAngleCardSaid :=
  Claim7.holds_tied_plain_at .later [] [.data, .data, .data, .data, .pinned] true (true, "85a449c576d7ad4a19425396b134294e9d303428f5954405ff65bd5db3b243d4") true
    TX.fnExactReadAngle.row (fun _ h => by cases h) (by kernel_rfl) (fun _ h => by cases h) fnExactReadAngle_row_tie rfl ⟨rfl, rfl⟩ (by kernel_rfl) rfl
    (fun f fn hf hfn => by
      obtain rfl : f = 7 := Option.some.inj ((show Tryd.prog.funcNamed "loop.example/g00880/laws.FnExactReadAngle" = some 7 by kernel_rfl).symm.trans hf) |>.symm
      obtain rfl : fn = Tryd.f7 := (Option.some.inj (Tryd.func7.symm.trans hfn)).symm
      exact ⟨by kernel_rfl, fun j t ht => by
        rw [Tryd.params7] at ht
        have hm : t ∈ [9] := by simpa using Array.mem_of_getElem? ht
        have hall : ([9].all fun u => !Tryd.prog.wantsStandIn u) = true := by kernel_rfl
        exact (show Tryd.prog.wantsStandIn t = false by simpa using List.all_eq_true.1 hall t hm)⟩)
    (by kernel_rfl)
end Go.Proofs.YtoncbpohjdackaaDoor
