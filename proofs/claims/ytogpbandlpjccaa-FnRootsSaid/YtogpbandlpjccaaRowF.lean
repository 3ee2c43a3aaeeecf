/- The law FnRoots returns true for every input, and leaves its arguments as they were. No condition. -/
import Derived.Test.YtogpbandlpjccaaFM
import Derived.Test.YtogpbandlpjccaaRows
import Derived.Test.YtogpbandlpjccaaChecked
import Derived.Deep.Slices
import Derived.Handed
set_option linter.unusedVariables false
set_option linter.unusedSimpArgs false
namespace Go.Proofs.Ytogpbandlpjccaa.TX
open Go Go.RX Go.ChangeShapes Go.WideShapes Go.ChangeAt Go.RowKit Go.Proofs.YtogpbandlpjccaaW.PrintWords
section
variable {H : Type} {enc : TypeId × Value → H} {P : Program} {w : World} {base b0 : Nat} {r : Reach} {held : Bool} {t e : TypeId} {v : Value} {d : DataW H} {p : List MemPlace}
theorem openU (hs : P.underlying t = some (.slice e)) (he : P.underlying e = some (.int .u8)) (hc1 : P.cellsOf e = 1) (hv : Value.okWide P w r b0 t v) (h : DataW.Trod enc P w base (fun _ => true) held t v d p) :
  ∃ (A : Option Addr) (c : Nat) (xs : List Int), v = .slice A xs.length c ∧ Kd.C (Kd.int .u8) w A xs.length xs ∧ xs.length ≤ c ∧ Bytes xs := by
 obtain ⟨a0, len0, cap0, rfl⟩ := okWide_slice hs hv
 obtain ⟨fuel, hf⟩ := h
 rcases Go.Deep.open_slice1 hs hc1 hf with ⟨hc, hx⟩ | ⟨a, len, cap, m, n, V, D, Pq, hc, hb, hl, hm, hmm, hx, hcell⟩
 ·simp [Value.cells] at hc
  obtain ⟨rfl, rfl, rfl⟩ := hc
  exact ⟨none, 0, [], rfl, ⟨rfl, Nat.zero_le _, fun h => by cases h⟩, Nat.le_refl _, fun x hx => by cases hx⟩
 ·simp only [Value.cells, List.cons.injEq, Value.slice.injEq, and_true] at hc
  obtain ⟨rfl, rfl, rfl⟩ := hc
  simp only [if_true] at hmm
  subst hmm
  have hmx : maxLen = 9223372036854775807 := by decide
  rw [hmx] at hm
  have hcell' : ∀ i, ∃ n0 : Int, i < len0 → V i = .int .u8 n0 ∧ 0 ≤ n0 ∧ n0 ≤ 255 := by
   intro i
   by_cases hi : i < len0
   ·obtain ⟨_, h2⟩ := hcell i (by omega)
    obtain ⟨n0, e0, _, hw⟩ := DataW.trod_int he h2
    simp only [List.cons.injEq, and_true] at e0
    simp only [Lit.wf, Bool.and_eq_true, decide_eq_true_eq] at hw
    exact ⟨n0, fun _ => ⟨e0, hw⟩⟩
   ·exact ⟨0, fun h => absurd h hi⟩
  obtain ⟨N, hN⟩ := Classical.axiomOfChoice hcell'
  refine ⟨some a, m, (List.range len0).map N, by simp, ⟨rfl, ?_, fun _ => ⟨a, rfl, fun j p hj => ?_⟩⟩, by simpa using hl, fun x hx => ?_⟩
  ·simp; omega
  ·simp only [List.getElem?_map] at hj
   have hjl : j < len0 := by
    by_cases h : j < len0
    ·exact h
    ·simp [h] at hj
   simp only [List.getElem?_range hjl, Option.map_some, Option.some.injEq] at hj
   subst hj
   obtain ⟨e0, _⟩ := hN j hjl
   obtain ⟨h1, _⟩ := hcell j (by omega)
   refine ⟨[.int .u8 (N j)], rfl, rfl, fun i u hi => ?_⟩
   match i, hi with
   | 0, hi =>
    simp at hi
    subst hi
    rw [← e0]
    have : j * (Kd.int IntKind.u8).sz + 0 = j := by show j * 1 + 0 = j; omega
    rw [this]
    exact h1
   | i + 1, hi => simp at hi
  ·obtain ⟨j, hj, rfl⟩ := List.mem_map.1 hx
   exact (hN j (List.mem_range.1 hj)).2
end
end Go.Proofs.Ytogpbandlpjccaa.TX
namespace Go.Proofs.Ytogpbandlpjccaa.fnRoots
open Go Go.RX Go.ChangeShapes Go.WideShapes Go.ChangeAt Go.RowKit Go.Proofs.Ytogpbandlpjccaa.TX Go.Proofs.YtogpbandlpjccaaW.PrintWords
set_option linter.unusedVariables false
theorem own : ownKnob Try.prog.godebug = none := by kernel_rfl
set_option maxRecDepth 100000 in
theorem lifted (os : Os) (started : os.Started) (H : Type) (enc : TypeId × Value → H) :
  ReturnsInHanded {} Try.checked os 3 .any (Rows.fnRootsSpec.pre6 enc Try.prog Try.f3 Rows.fnRootsRow.domain false) (Rows.fnRootsSpec.post enc Try.prog Try.f3 false true false false) := by
 refine returnsInHanded_of_change_sized (C := Try.checked) own started (by kernel_rfl) Try.func3
  (ChangeSpec.witness6 (enc := enc) (C := Try.checked) false ⟨#[], #[.slice none 0 0, .slice none 0 0], []⟩ 8 (by kernel_rfl) (by kernel_rfl) (by kernel_rfl) (by kernel_rfl)) ?_
 intro W base args ds gs before hval0 hW hcnd hsz0 _
 have hval : ∀ (j : Nat) t v, Try.f3.params[j]? = some t → args[j]? = some v → Value.okWide Try.prog W .any base t v := hval0
 have hW' := hW
 obtain ⟨p, q, hA0, hV, rfl, hfz, hnd⟩ := hW
 have hA : DataW.TrodAll enc Try.prog W 0 (fun _ => true) true Try.f3.params.toList args.toList ds p := hA0
 rw [Try.params3] at hA hval
 obtain ⟨v0, vs0, d0, ds0, p0, q0, hargs, rfl, rfl, h0, r0⟩ := trodAll_cons hA
 obtain ⟨v1, vs1, d1, ds1, p1, q1, rfl, rfl, rfl, h1, r1⟩ := trodAll_cons r0
 obtain ⟨rfl, rfl, rfl⟩ := trodAll_nil r1
 obtain rfl : args = #[v0, v1] := by cases args; simp_all
 obtain ⟨rfl, rfl⟩ := trodVars_none hV
 have s0 := h0
 obtain ⟨A0, c0, l0, rfl, k0, z0, w0⟩ := openU Try.underlying22 Try.underlying5 (by kernel_rfl) (hval 0 22 v0 rfl rfl) h0
 have s1 := h1
 obtain ⟨A1, c1, l1, rfl, k1, z1, w1⟩ := openU Try.underlying22 Try.underlying5 (by kernel_rfl) (hval 1 22 v1 rfl rfl) h1
 clear hA0 hval0 hsz0
 have lt0 : ∀ x ∈ p0, x.block < W.heap.size := fun x hx => hW'.lt x (by simp [hx])
 have lt1 : ∀ x ∈ p1, x.block < W.heap.size := fun x hx => hW'.lt x (by simp [hx])
 obtain ⟨k, hk⟩ := lawRoots w0 w1
 refine (qaA.calls k A0 c0 l0 A1 c1 l1 true W k0 z0 k1 z1 hk).mono fun e W' ⟨he, bel⟩ => ?_
 subst he
 exact ⟨_, rfl, _, _, _, [], _, [], hW', trodAll_mk1 (shut_bool Try.underlying4 _), (trodAll_cons_mk (Below.trod (by kernel_rfl) (by kernel_rfl) (of_decide_eq_true (by kernel_rfl)) s0 bel lt0) (trodAll_cons_mk (Below.trod (by kernel_rfl) (by kernel_rfl) (of_decide_eq_true (by kernel_rfl)) s1 bel lt1) trodAll_mk0)), rfl, bel.frame _, fun h => by cases h⟩
theorem over : Rows.fnRootsRow.holds Try.pinned (OpenSpec.ofChange Rows.fnRootsSpec) :=
 OpenClaim.holds_of_wide 3 Try.f3 rfl rfl rfl rfl rfl rfl rfl ⟨rfl, rfl, rfl, rfl, rfl⟩ rfl rfl rfl rfl rfl (by kernel_rfl) Try.func3 (by kernel_rfl)
  (of_decide_eq_true (by kernel_rfl)) (by unfold Func.isWrapper; first | (rw [if_pos (by decide +kernel)]; kernel_rfl) | (rw [if_neg (by decide +kernel)]; exact ⟨rfl, rfl⟩))
  (fun os started H enc _ => lifted os started H enc)
theorem proved : Rows.FnRootsSaid := over
end Go.Proofs.Ytogpbandlpjccaa.fnRoots
namespace Go.Proofs.Ytogpbandlpjccaa
theorem fnRoots_holds : Rows.FnRootsSaid := fnRoots.proved
end Go.Proofs.Ytogpbandlpjccaa
