/- The rows' frame: what the package variables hold, out of the condition and the world's shape. -/
import Derived.Test.YtoncbpohjdackaaDoorRows
import Derived.Test.YtoncbpohjdackaaDoorOk
import Derived.Test.YtoncbpohjdackaaDoorOF
import Derived.ProofKit
import Derived.LaidMore
import Derived.OpenShut
import Derived.HandedShaped
import Derived.ShapedOpen
import Derived.Stop.Joined
import Derived.Stop.LaidErr
set_option linter.unusedSimpArgs false
set_option linter.unusedVariables false
namespace Go.Proofs.YtoncbpohjdackaaDoor.TX
open Go.ChangeShapes Go.WideShapes Go.ChangeAt Go.RowKit

theorem wrapX {H : Type} {enc : TypeId × Value → H} {a : Assume} {C : Checked} {os : Os} {f : FuncId} {fn : Func} {s : ChangeSpec} {conds : List PathCond} {apart fresh handsOn again : Bool} {X : World → Array Value → Prop}
    (hX : ∀ (w w' : World) (args : Array Value), w.heap = w'.heap → X w args → X w' args)
    (own : ownKnob C.prog.godebug = none) (started : os.Started) (noInit : C.prog.inits.idxOf? f = none) (hfn : C.prog.funcs[f]? = some fn)
    (witness : ∃ (w : World) (tape : Tape) (i : Input), w.os = os ∧ (w.forCall tape i).Shaped C.prog ∧ i.vars = [] ∧ Input.okWide C.prog (w.forCall tape i) .any w.heap.size f i ∧
      ((s.pre enc C.prog fn conds apart (w.forCall tape i).memory i.args ∧ X (w.forCall tape i).memory i.args) ∧ sizedMet enc C.prog fn (OpenSpec.ofChange s) apart (w.forCall tape i).memory i.args) ∧ a.holds C.prog (lone (Frame.enter C.prog f i.args .normal) [] (w.forCall tape i)))
    (contract : ∀ (W : World) (base : Nat) (args : Array Value) (ds gs : List (DataW H)) (before : List MemPlace),
      (∀ (j : Nat) t v, fn.params[j]? = some t → args[j]? = some v → Value.okWide C.prog W .any base t v) →
      DataW.Whole enc C.prog fn.params.toList s.vars apart W args.toList ds gs before → X W args → W.ShapedOpen C.prog →
      Calls C.prog f args W fun e W' => ∃ v, e = .returned v ∧ s.post enc C.prog fn apart fresh handsOn again W args v W') :
    ReturnsInHanded a C os f .any (fun w args => (s.pre enc C.prog fn conds apart w args ∧ X w args) ∧ sizedMet enc C.prog fn (OpenSpec.ofChange s) apart w args) (s.post enc C.prog fn apart fresh handsOn again) := by
  refine returnsInHanded_of_calls own started noInit witness ?_
  intro w tape i _ hsh _ hok hpre hholds
  obtain ⟨_, _, _, fn', hfn', _, _, _, _, hval⟩ := hok
  have e : fn' = fn := Option.some.inj (hfn'.symm.trans hfn)
  subst e
  obtain ⟨⟨⟨ds, gs, before, hw, hc⟩, hx⟩, hz⟩ := hpre
  have hw' := DataW.Whole.of_heap (w' := w.forCall tape i) (by rfl) hw
  refine (contract (w.forCall tape i) w.heap.size i.args ds gs before hval hw' (hX _ _ _ (by rfl) hx) hsh).mono fun e W' ⟨v, he, hp⟩ => ?_
  subst he
  exact ChangeSpec.post_blind hp

theorem own : ownKnob Tryd.prog.godebug = none := by kernel_rfl
abbrev tabs3 : List (String × DataW Unit) := [("math/bits.deBruijn32tab", Rows.laid_math_bits_deBruijn32tab), ("math/bits.deBruijn64tab", Rows.laid_math_bits_deBruijn64tab), ("internal/strconv.uint64pow10", Rows.laid_internal_strconv_uint64pow10)]
theorem g5 : Tryd.prog.globalNamed "internal/strconv.uint64pow10" = some 5 := by kernel_rfl
theorem t5g : (Tryd.prog.globals[5]?).map (·.type) = some 126 := by kernel_rfl
theorem c126 : Tryd.prog.cellsOf 126 = 20 := by kernel_rfl
theorem c95 : Tryd.prog.cellsOf 95 = 1 := by kernel_rfl
theorem tab_of {x y : String × DataW Unit} {rest : List (String × DataW Unit)} {W : World} (h : laidMet Tryd.prog (x :: y :: ("internal/strconv.uint64pow10", Rows.laid_internal_strconv_uint64pow10) :: rest) W) :
    Lib.TabIs Tryd.prog W "internal/strconv.uint64pow10" .u64 Lib.pow10Tab :=
  Lib.tabIs_of_head g5 t5g Tryd.underlying126 Tryd.underlying95 c95 c126 (show laidMet Tryd.prog (("internal/strconv.uint64pow10", Lib.tabData .u64 Lib.pow10Tab) :: rest) W from h.tail.tail)
theorem size_of_tab {W : World} (h : Lib.TabIs Tryd.prog W "internal/strconv.uint64pow10" .u64 Lib.pow10Tab) : 3 ≤ W.heap.size := by
  have hc := h.cell g5 0 (by decide)
  unfold World.cell? at hc
  split at hc
  · rename_i hb
    have := (Array.getElem?_eq_some_iff.1 hb).1
    have h5 : 5 < W.heap.size := this
    omega
  · cases hc
theorem ok_plain {x y : String × DataW Unit} {rest : List (String × DataW Unit)} {W : World} (h : laidMet Tryd.prog (x :: y :: ("internal/strconv.uint64pow10", Rows.laid_internal_strconv_uint64pow10) :: rest) W) (hsh : W.ShapedOpen Tryd.prog) : Ok_ false W := by
  have ht := tab_of h
  exact ⟨Lib.tabBelow_of_tabIs ht, size_of_tab ht, Tryd.laysM145.s1_3 W hsh, fun h => by cases h⟩
end Go.Proofs.YtoncbpohjdackaaDoor.TX
namespace Go.Proofs.YtoncbpohjdackaaDoor.TX
open Go.ChangeShapes Go.WideShapes Go.ChangeAt Go.RowKit
theorem g1 : Tryd.prog.globalNamed "strconv.ErrSyntax" = some 1 := by kernel_rfl
theorem g2 : Tryd.prog.globalNamed "strconv.ErrRange" = some 2 := by kernel_rfl
theorem t1g : (Tryd.prog.globals[1]?).map (·.type) = some 62 := by kernel_rfl
theorem t2g : (Tryd.prog.globals[2]?).map (·.type) = some 62 := by kernel_rfl
theorem c135 : Tryd.prog.cellsOf 135 = 1 := by kernel_rfl
theorem c9 : Tryd.prog.cellsOf 9 = 1 := by kernel_rfl
theorem star : "*" ++ "errors.errorString" = "*errors.errorString" := by decide
theorem row133 (u : TypeId) (h : Tryd.prog.typeName? 3 u = some "*errors.errorString") : u = 133 :=
  typeName_ptr_named (nm := "errors.errorString") (by rw [star]; kernel_rfl) (by kernel_rfl) (by decide) u (by rw [star]; exact h)
theorem ok_errs {x y : String × DataW Unit} {W : World} (h : laidMet Tryd.prog (x :: y :: ("internal/strconv.uint64pow10", Rows.laid_internal_strconv_uint64pow10) :: ("strconv.ErrRange", Rows.laid_strconv_ErrRange) :: ("strconv.ErrSyntax", Rows.laid_strconv_ErrSyntax) :: []) W) (hsh : W.ShapedOpen Tryd.prog) : Ok_ true W := by
  have ht := tab_of h
  obtain ⟨a, s, h1, _⟩ := laid_sentinel h.tail.tail.tail g2 t2g Tryd.underlying62 row133 Tryd.underlying133 Tryd.underlying135 rfl rfl Tryd.underlying9 c135 c9
  obtain ⟨a', s', h2, _⟩ := laid_sentinel h.tail.tail.tail.tail g1 t1g Tryd.underlying62 row133 Tryd.underlying133 Tryd.underlying135 rfl rfl Tryd.underlying9 c135 c9
  exact ⟨Lib.tabBelow_of_tabIs ht, size_of_tab ht, Tryd.laysM145.s1_3 W hsh, fun _ => ⟨⟨_, _, h2⟩, _, _, h1⟩⟩
end Go.Proofs.YtoncbpohjdackaaDoor.TX
