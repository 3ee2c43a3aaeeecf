/- The tied cards of LatitudeName and LatitudeNamed. -/
import Derived.Test.YthbdlfmgeebnaaaDoorProofA
import Derived.Test.YthbdlfmgeebnaaaDoorCards
import Derived.Test.YthbdlfmgeebnaaaDoorTie
set_option linter.unusedSimpArgs false
set_option linter.unusedVariables false
namespace Go.Proofs.YthbdlfmgeebnaaaDoor
open Go
theorem fnExactLatitudeName_holds : Rows.FnExactLatitudeNameCardSaid :=
  Claim7.holds_tied_plain_at .later [] [.widerDeep] true (true, "42b079e14dba304f59617502358b7189173207d00a7f56a01e162020e13f29e1") false
    fnExactLatitudeName_row (fun _ h => by cases h) (by kernel_rfl) (fun _ h => by cases h) fnExactLatitudeName_row_tie rfl ⟨rfl, rfl⟩ (by kernel_rfl) rfl
    (fun f fn hf hfn => by
      obtain rfl : f = 3 := Option.some.inj ((show Tryd.prog.funcNamed "loop.example/g00880/laws.FnExactLatitudeName" = some 3 by kernel_rfl).symm.trans hf) |>.symm
      obtain rfl : fn = Tryd.f3 := (Option.some.inj (Tryd.func3.symm.trans hfn)).symm
      exact ⟨by kernel_rfl, fun j t ht => by
        rw [Tryd.params3] at ht
        have hm : t ∈ [2] := by simpa using Array.mem_of_getElem? ht
        have hall : ([2].all fun u => !Tryd.prog.wantsStandIn u) = true := by kernel_rfl
        exact (show Tryd.prog.wantsStandIn t = false by simpa using List.all_eq_true.1 hall t hm)⟩)
    (by kernel_rfl)
theorem fnExactLatitudeNamed_holds : Rows.FnExactLatitudeNamedCardSaid :=
  Claim7.holds_tied_plain_at .later [] [.widerDeep] true (true, "42b079e14dba304f59617502358b7189173207d00a7f56a01e162020e13f29e1") false
    fnExactLatitudeNamed_row (fun _ h => by cases h) (by kernel_rfl) (fun _ h => by cases h) fnExactLatitudeNamed_row_tie rfl ⟨rfl, rfl⟩ (by kernel_rfl) rfl
    (fun f fn hf hfn => by
      obtain rfl : f = 4 := Option.some.inj ((show Tryd.prog.funcNamed "loop.example/g00880/laws.FnExactLatitudeNamed" = some 4 by kernel_rfl).symm.trans hf) |>.symm
      obtain rfl : fn = Tryd.f4 := (Option.some.inj (Tryd.func4.symm.trans hfn)).symm
      exact ⟨by kernel_rfl, fun j t ht => by
        rw [Tryd.params4] at ht
        have hm : t ∈ [9] := by simpa using Array.mem_of_getElem? ht
        have hall : ([9].all fun u => !Tryd.prog.wantsStandIn u) = true := by kernel_rfl
        exact (show Tryd.prog.wantsStandIn t = false by simpa using List.all_eq_true.1 hall t hm)⟩)
    (by kernel_rfl)
end Go.Proofs.YthbdlfmgeebnaaaDoor
