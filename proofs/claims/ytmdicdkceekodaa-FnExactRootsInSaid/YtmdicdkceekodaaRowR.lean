/- The law FnExactRootsIn returns true for every input, and leaves its arguments as they were. No condition. -/
import Derived.Test.YtmdicdkceekodaaLZ
import Derived.Test.YtmdicdkceekodaaRows
import Derived.Handed
set_option linter.unusedVariables false
set_option linter.unusedSimpArgs false
namespace Go.Proofs.Ytmdicdkceekodaa.TX
open Go Go.RX Go.ChangeShapes Go.WideShapes Go.ChangeAt Go.RowKit Go.Proofs.YtmdicdkceekodaaW.PrintWords
def isI64' (t : Option TypeDesc) : Bool := match t with | some (.int .i64) => true | _ => false
theorem isI64'_eq {t : Option TypeDesc} (h : isI64' t = true) : t = some (.int .i64) := by
 unfold isI64' at h
 split at h
 ·rfl
 ·cases h
def pairK' (P : Program) (e : TypeId) : Bool :=
 match P.underlying e with
 | some (.struct ⟨[f0, f1]⟩) => decide (P.cellsOf e = 2) && decide (f0.offset = 0) && decide (f1.offset = 1) && decide (P.cellsOf f0.type = 1) && decide (P.cellsOf f1.type = 1) &&
   isI64' (P.underlying f0.type) && isI64' (P.underlying f1.type)
 | _ => false
section
variable {H : Type} {enc : TypeId × Value → H} {P : Program} {w : World} {base b0 : Nat} {r : Reach} {held : Bool} {t e : TypeId} {v : Value} {d : DataW H} {p : List MemPlace}
theorem openK (hs : P.underlying t = some (.slice e)) (hk : pairK' P e = true) (hv : Value.okWide P w r b0 t v) (h : DataW.Trod enc P w base (fun _ => true) held t v d p) :
  ∃ (A : Option Addr) (c : Nat) (xs : List S32), v = .slice A xs.length c ∧ Kd.C k32 w A xs.length xs ∧ xs.length ≤ c ∧ c ≤ 9223372036854775807 := by
 obtain ⟨a0, len0, cap0, rfl⟩ := okWide_slice hs hv
 obtain ⟨fuel, hf⟩ := h
 unfold pairK' at hk
 split at hk
 case h_2 => simp at hk
 rename_i f0 f1 he
 simp only [Bool.and_eq_true, decide_eq_true_eq] at hk
 obtain ⟨⟨⟨⟨⟨⟨ce, o0⟩, o1⟩, c0⟩, c1⟩, u0'⟩, u1'⟩ := hk
 have u0 := isI64'_eq u0'
 have u1 := isI64'_eq u1'
 rcases Go.Deep.open_slice_pairs hs he ce o0 o1 c0 c1 hf with ⟨hc, hx⟩ | ⟨a, len, cap, m, n, V0, V1, D0, D1, P0, P1, hc, hb, hl, hm, hmm, hx, hcell⟩
 ·simp [Value.cells] at hc
  obtain ⟨rfl, rfl, rfl⟩ := hc
  exact ⟨none, 0, [], rfl, ⟨rfl, Nat.zero_le _, fun h => by cases h⟩, Nat.le_refl _, Nat.zero_le _⟩
 ·simp only [Value.cells, List.cons.injEq, Value.slice.injEq, and_true] at hc
  obtain ⟨rfl, rfl, rfl⟩ := hc
  simp only [if_true] at hmm
  subst hmm
  have hcell' : ∀ i, ∃ n0 n1 : Int, i < len0 → V0 i = .int .i64 n0 ∧ V1 i = .int .i64 n1 := by
   intro i
   by_cases hi : i < len0
   ·obtain ⟨_, _, h3, h4⟩ := hcell i (by omega)
    obtain ⟨n0, e0, _, w0⟩ := DataW.trod_int u0 h3
    obtain ⟨n1, e1, _, w1⟩ := DataW.trod_int u1 h4
    simp only [List.cons.injEq, and_true] at e0 e1
    exact ⟨n0, n1, fun _ => ⟨e0, e1⟩⟩
   ·exact ⟨0, 0, fun h => absurd h hi⟩
  obtain ⟨N0, hN0⟩ := Classical.axiomOfChoice hcell'
  obtain ⟨N1, hN⟩ := Classical.axiomOfChoice hN0
  have hmx : maxLen = 9223372036854775807 := by decide
  rw [hmx] at hm
  refine ⟨some a, m, (List.range len0).map fun i => ⟨N0 i, N1 i⟩, by simp, ⟨rfl, ?_, fun _ => ⟨a, rfl, fun j p hj => ?_⟩⟩, by simpa using hl, hm⟩
  ·simp; omega
  ·simp only [List.getElem?_map] at hj
   have hjl : j < len0 := by
    by_cases h : j < len0
    ·exact h
    ·simp [h] at hj
   simp only [List.getElem?_range hjl, Option.map_some, Option.some.injEq] at hj
   subst hj
   obtain ⟨e0, e1⟩ := hN j hjl
   obtain ⟨h1, h2, _, _⟩ := hcell j (by omega)
   refine ⟨[.int .i64 (N0 j), .int .i64 (N1 j)], rfl, k32_mk w ⟨N0 j, N1 j⟩, fun i u hi => ?_⟩
   match i, hi with
   | 0, hi =>
    simp at hi
    subst hi
    rw [← e0]
    exact h1
   | 1, hi =>
    simp at hi
    subst hi
    rw [← e1]
    exact h2
   | i + 2, hi => simp at hi
end
end Go.Proofs.Ytmdicdkceekodaa.TX
namespace Go.Proofs.Ytmdicdkceekodaa.fnExactRootsIn
open Go Go.RX Go.ChangeShapes Go.WideShapes Go.ChangeAt Go.RowKit Go.Proofs.Ytmdicdkceekodaa.TX Go.Proofs.YtmdicdkceekodaaW.PrintWords
theorem own : ownKnob Try.prog.godebug = none := by kernel_rfl
set_option maxRecDepth 100000 in
theorem lifted (os : Os) (started : os.Started) (H : Type) (enc : TypeId × Value → H) :
  ReturnsInHanded {} Try.checked os 4 .any (Rows.fnExactRootsInSpec.pre6 enc Try.prog Try.f4 Rows.fnExactRootsInRow.domain false) (Rows.fnExactRootsInSpec.post enc Try.prog Try.f4 false true false false) := by
 refine returnsInHanded_of_change_sized (C := Try.checked) own started (by kernel_rfl) Try.func4
  (ChangeSpec.witness6 (enc := enc) (C := Try.checked) false ⟨#[], #[.slice none 0 0, .agg #[.int .i64 0, .int .i64 0], .int .i64 0], []⟩ 8 (by kernel_rfl) (by kernel_rfl) (by kernel_rfl) (by kernel_rfl)) ?_
 intro W base args ds gs before hval0 hW hcnd hsz0 _
 have hval : ∀ (j : Nat) t v, Try.f4.params[j]? = some t → args[j]? = some v → Value.okWide Try.prog W .any base t v := hval0
 have hW' := hW
 obtain ⟨p, q, hA0, hV, rfl, hfz, hnd⟩ := hW
 have hA : DataW.TrodAll enc Try.prog W 0 (fun _ => true) true Try.f4.params.toList args.toList ds p := hA0
 rw [Try.params4] at hA hval
 obtain ⟨v0, vs0, d0, ds0, p0, q0, hargs, rfl, rfl, h0, r0⟩ := trodAll_cons hA
 obtain ⟨v1, vs1, d1, ds1, p1, q1, rfl, rfl, rfl, h1, r1⟩ := trodAll_cons r0
 obtain ⟨v2, vs2, d2, ds2, p2, q2, rfl, rfl, rfl, h2, r2⟩ := trodAll_cons r1
 obtain ⟨rfl, rfl, rfl⟩ := trodAll_nil r2
 obtain rfl : args = #[v0, v1, v2] := by cases args; simp_all
 obtain ⟨rfl, rfl⟩ := trodVars_none hV
 have s0 := h0
 obtain ⟨A0, c0, l0, rfl, k0, z0, w0⟩ := openK Try.underlying22 (by kernel_rfl) (hval 0 22 v0 rfl rfl) h0
 obtain ⟨a1, rfl, w1, rfl, s1⟩ := openIv (m := 8) Try.underlying32 (by kernel_rfl) (hval 1 32 v1 rfl rfl) h1
 obtain ⟨a2, rfl, w2, rfl, s2⟩ := openI Try.underlying2 (hval 2 2 v2 rfl rfl) h2
 clear hA0 hval0 hsz0
 have lt0 : ∀ x ∈ p0, x.block < W.heap.size := fun x hx => hW'.lt x (by simp [hx])
 obtain ⟨k, hk⟩ := lawRootsIn l0 a1.lo a1.hi a2 (Nat.le_trans z0 w0)
 refine (laws_FnExactRootsIn.calls k A0 c0 l0 a1.lo a1.hi a2 true W k0 z0 hk).mono fun e W' ⟨he, bel⟩ => ?_
 subst he
 exact ⟨_, rfl, _, _, _, [], _, [], hW', trodAll_mk1 (shut_bool Try.underlying4 _), (trodAll_cons_mk (Below.trod (by kernel_rfl) (by kernel_rfl) (of_decide_eq_true (by kernel_rfl)) s0 bel lt0) (trodAll_cons_mk (s1 _ _ _ _) (trodAll_cons_mk (s2 _ _ _ _) trodAll_mk0))), rfl, bel.frame _, fun h => by cases h⟩
theorem over : Rows.fnExactRootsInRow.holds Try.pinned (OpenSpec.ofChange Rows.fnExactRootsInSpec) :=
 OpenClaim.holds_of_wide 4 Try.f4 rfl rfl rfl rfl rfl rfl rfl ⟨rfl, rfl, rfl, rfl, rfl⟩ rfl rfl rfl rfl rfl (by kernel_rfl) Try.func4 (by kernel_rfl)
  (of_decide_eq_true (by kernel_rfl)) (by unfold Func.isWrapper; first | (rw [if_pos (by decide +kernel)]; kernel_rfl) | (rw [if_neg (by decide +kernel)]; exact ⟨rfl, rfl⟩))
  (fun os started H enc _ => lifted os started H enc)
theorem proved : Rows.FnExactRootsInSaid := over
end Go.Proofs.Ytmdicdkceekodaa.fnExactRootsIn
namespace Go.Proofs.Ytmdicdkceekodaa
theorem fnExactRootsIn_holds : Rows.FnExactRootsInSaid := fnExactRootsIn.proved
end Go.Proofs.Ytmdicdkceekodaa
