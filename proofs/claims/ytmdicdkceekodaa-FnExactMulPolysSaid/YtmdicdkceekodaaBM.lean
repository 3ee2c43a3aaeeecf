/- The product of two intervals, as the machine's calls come to it: the program's and the reference's. -/
import Derived.Test.YtmdicdkceekodaaGM
set_option linter.unusedVariables false
namespace Go.Proofs.Ytmdicdkceekodaa.TX
open Go Go.RowKit
theorem impl_MulI_ (a b : Go.RX.Iv) (w : World) : Calls Try.prog 22 #[.agg #[.int .i64 a.lo, .int .i64 a.hi], .agg #[.int .i64 b.lo, .int .i64 b.hi]] w fun e w' => e = .returned (.agg #[.int .i64 (Go.G880.impl_MulI a b).lo, .int .i64 (Go.G880.impl_MulI a b).hi]) ∧ Below w.heap.size w w' :=
  (Go.Proofs.Ytmdicdkceekodaa.impl_MulI.gives a b).calls rfl rfl w
theorem spec_MulI_ (a b : Go.RX.Iv) (w : World) : Calls Try.prog 18 #[.agg #[.int .i64 a.lo, .int .i64 a.hi], .agg #[.int .i64 b.lo, .int .i64 b.hi]] w fun e w' => e = .returned (.agg #[.int .i64 (Go.G880.impl_MulI a b).lo, .int .i64 (Go.G880.impl_MulI a b).hi]) ∧ Below w.heap.size w w' := by
  rw [Go.G880.MulI_eq]
  exact (Go.Proofs.Ytmdicdkceekodaa.spec_MulI.gives a b).calls rfl rfl w
end Go.Proofs.Ytmdicdkceekodaa.TX
