/- Rows: an argument that is a slice of pairs of whole numbers, opened; functions that are handed lists, called from a row. -/
import Derived.Test.YtogpbandlpjccaaGreatRxM
import Derived.Test.YtogpbandlpjccaaGreatRxG
import Derived.Deep.SlicePairs
import Derived.Carry
set_option linter.unusedSimpArgs false
set_option linter.unusedVariables false
namespace Go.RX
open Go.ChangeShapes Go.WideShapes Go.ChangeAt Go.RowKit

/-- The arguments, as they lie in a world. -/
structure Ready (w : World) (as : List Arg) (xs : List Value) (q : Nat → Pl) : Prop where
  lies : Lies q (argBlocks as) w
  within : Within q (argBlocks as) w
  vals : ∀ (k : Nat) (β0 : Nat → Pl), (∀ j, j < (argBlocks as).length → β0 (k + j) = q j) → (argVals k as).map (rl β0) = xs
  inn : ∀ (k : Nat), ∀ x ∈ argVals k as, inn (k + (argBlocks as).length) x = true
  plain : ∀ (i : Nat) (c : Array Value) (t : TypeId), (argBlocks as)[i]? = some (c, t) → isN c = true → ∀ v ∈ c.toList, plain v = true

theorem Ready.nil (w : World) : ∃ q, Ready w [] [] q := ⟨fun _ => ⟨none, none, 0, 0, 0⟩, ⟨fun i c t hi => by simp [argBlocks] at hi, fun i c t hi => by simp [argBlocks] at hi, fun i rows g z t hi => by simp [argBlocks] at hi⟩,
  fun i hi => by simp [argBlocks] at hi, fun _ _ _ => rfl, fun k x hx => by simp [argVals] at hx, fun i c t hi => by simp [argBlocks] at hi⟩

theorem Ready.v {w : World} {as : List Arg} {xs : List Value} {x : Value} (hx : RX.plain x = true) (h : ∃ q, Ready w as xs q) : ∃ q, Ready w (.v x :: as) (x :: xs) q := by
  obtain ⟨q, h⟩ := h
  refine ⟨q, h.lies, h.within, fun k β0 hb => ?_, fun k y hy => ?_, h.plain⟩
  · simp only [argVals, List.map_cons, rl_plain hx]
    rw [h.vals k β0 hb]
  · simp only [argVals, List.mem_cons] at hy
    rcases hy with rfl | hy
    · exact plain_inn hx
    · exact h.inn k y hy

theorem Ready.l {w : World} {as : List Arg} {xs : List Value} {p : Pl} {z : Value} {e : TypeId} {rows : List Value} (hp : Lst p z rows false e w) (hlt : ∀ k, p.adr = some k → k < w.heap.size) (h : ∃ q, Ready w as xs q) :
    ∃ q, Ready w (.l z e rows :: as) (.slice p.ha p.hl p.hc :: xs) q := by
  obtain ⟨q, h⟩ := h
  refine ⟨fun j => match j with | 0 => p | j + 1 => q j, h.lies.cons (fun hn => by simp [isN, lstC] at hn) (fun rows2 g2 z2 he => ?_) h.plain, fun i hi k hk => ?_, fun k β0 hb => ?_, fun k y hy => ?_, fun i c t hi hn => ?_⟩
  · simp only [lstC, Array.mk.injEq, List.cons.injEq, Value.tuple.injEq, Value.bool.injEq, and_true] at he
    obtain ⟨rfl, rfl, rfl⟩ := he
    exact hp
  · cases i with
    | zero => exact hlt k hk
    | succ i => exact h.within i (by simp only [argBlocks, List.length_cons] at hi; omega) k hk
  · simp only [argVals, List.map_cons]
    rw [h.vals (k + 1) β0 fun j hj => by
      have := hb (j + 1) (by simp only [argBlocks, List.length_cons]; omega)
      rw [show k + 1 + j = k + (j + 1) by omega]
      exact this]
    have h0 := hb 0 (by simp [argBlocks])
    simp only [Nat.add_zero] at h0
    simp [rl, hdrV, mvS, h0]
  · simp only [argVals, List.mem_cons] at hy
    rcases hy with rfl | hy
    · simp [hdrV, RX.inn, argBlocks]
    · have := h.inn (k + 1) y hy
      rw [show k + 1 + (argBlocks as).length = k + (argBlocks (.l z e rows :: as)).length by simp [argBlocks]; omega] at this
      exact this
  · cases i with
    | zero =>
      simp only [argBlocks, List.getElem?_cons_zero, Option.some.injEq, Prod.mk.injEq] at hi
      rw [← hi.1] at hn
      simp [isN, lstC] at hn
    | succ i => exact h.plain i c t (by simpa [argBlocks] using hi) hn

theorem GivesA.calls {P : Program} {g : FuncId} {as : List Arg} {xs : List Value} {v : Value} (h : GivesA P g as v) (hv : RX.plain v = true) {w : World} (hr : ∃ q, Ready w as xs q) :
    Calls P g xs.toArray w fun e w' => e = .returned v ∧ Below w.heap.size w w' := by
  obtain ⟨q, hr⟩ := hr
  have := h.2 q w trivial hr.lies hr.within fun x hx => by have := hr.inn 0 x hx; rwa [Nat.zero_add] at this
  rw [hr.vals 0 q fun j _ => by rw [Nat.zero_add]] at this
  refine this.mono ?_
  rintro e w' ⟨β', rfl, _, hp⟩
  rw [rl_plain hv]
  exact ⟨rfl, hp.below⟩

def isI64 (t : Option TypeDesc) : Bool := match t with | some (.int .i64) => true | _ => false
theorem isI64_eq {t : Option TypeDesc} (h : isI64 t = true) : t = some (.int .i64) := by
  unfold isI64 at h
  split at h
  · rfl
  · cases h
/-- A struct of two whole numbers of 64 bits. -/
def pairK (P : Program) (e : TypeId) : Bool :=
  match P.underlying e with
  | some (.struct ⟨[f0, f1]⟩) => decide (P.cellsOf e = 2) && decide (f0.offset = 0) && decide (f1.offset = 1) && decide (P.cellsOf f0.type = 1) && decide (P.cellsOf f1.type = 1) &&
      isI64 (P.underlying f0.type) && isI64 (P.underlying f1.type)
  | _ => false

def zIv : Value := .agg #[.int .i64 0, .int .i64 0]

theorem cell_block {w : World} {k o : Nat} {v : Value} (h : w.cell? ⟨k, o, none⟩ = some v) : ∃ c t fz, w.heap[k]? = some (.cells c t fz) ∧ c[o]? = some v := by
  unfold World.cell? at h
  split at h
  · rename_i c t fz hc
    simp at h
    exact ⟨_, _, _, hc, h⟩
  · simp at h

section
variable {H : Type} {enc : TypeId × Value → H} {P : Program} {w : World} {base b0 : Nat} {r : Reach} {held : Bool} {t e : TypeId} {v : Value} {d : DataW H} {p : List MemPlace}

theorem openL (hs : P.underlying t = some (.slice e)) (hk : pairK P e = true) (hv : Value.okWide P w r b0 t v) (h : DataW.Trod enc P w base (fun _ => true) held t v d p) :
    ∃ (rows : List Value) (pl : Pl), v = .slice pl.ha pl.hl pl.hc ∧ Lst pl zIv rows false e w ∧ (∀ k, pl.adr = some k → k < w.heap.size) ∧ (rows.length : Int) ≤ 9223372036854775807 ∧ ∀ x ∈ rows, ∃ a : Iv, a.In ∧ x = cIv.enc a := by
  obtain ⟨a0, len0, cap0, rfl⟩ := okWide_slice hs hv
  obtain ⟨fuel, hf⟩ := h
  unfold pairK at hk
  split at hk
  case h_2 => simp at hk
  rename_i f0 f1 he
  simp only [Bool.and_eq_true, decide_eq_true_eq] at hk
  obtain ⟨⟨⟨⟨⟨⟨ce, o0⟩, o1⟩, c0⟩, c1⟩, u0'⟩, u1'⟩ := hk
  have u0 := isI64_eq u0'
  have u1 := isI64_eq u1'
  rcases Go.Deep.open_slice_pairs hs he ce o0 o1 c0 c1 hf with ⟨hc, hx⟩ | ⟨a, len, cap, m, n, V0, V1, D0, D1, P0, P1, hc, hb, hl, hm, hmm, hx, hcell⟩
  · simp [Value.cells] at hc
    obtain ⟨rfl, rfl, rfl⟩ := hc
    refine ⟨[], ⟨none, none, 0, 0, 2⟩, rfl, ⟨rfl, fun r hr => by simp at hr, Nat.zero_lt_two, Nat.le_refl _, rfl, Or.inl ⟨rfl, rfl, fun hh => by cases hh⟩, fun hh => by cases hh⟩, (fun k hk => by cases hk), by simp, fun x hx => by simp at hx⟩
  · simp only [Value.cells, List.cons.injEq, Value.slice.injEq, and_true] at hc
    obtain ⟨rfl, rfl, rfl⟩ := hc
    simp only [if_true] at hmm
    subst hmm
    have hcell' : ∀ i, i < len0 → ∃ n0 n1 : Int, V0 i = .int .i64 n0 ∧ V1 i = .int .i64 n1 ∧ In64 n0 ∧ In64 n1 := by
      intro i hi
      obtain ⟨_, _, h3, h4⟩ := hcell i (by omega)
      obtain ⟨n0, e0, _, w0⟩ := DataW.trod_int u0 h3
      obtain ⟨n1, e1, _, w1⟩ := DataW.trod_int u1 h4
      simp only [List.cons.injEq, and_true] at e0 e1
      exact ⟨n0, n1, e0, e1, in64_of w0, in64_of w1⟩
    have hlen : ((((List.range len0).map fun i => Value.agg #[V0 i, V1 i]).length : Nat) : Int) ≤ 9223372036854775807 := by
      unfold maxLen at hm
      simp
      omega
    have hrow : ∀ x ∈ (List.range len0).map fun i => Value.agg #[V0 i, V1 i], ∃ a : Iv, a.In ∧ x = cIv.enc a := by
      intro x hx
      simp only [List.mem_map, List.mem_range] at hx
      obtain ⟨i, hi, rfl⟩ := hx
      obtain ⟨n0, n1, e0, e1, w0, w1⟩ := hcell' i hi
      exact ⟨⟨n0, n1⟩, ⟨w0, w1⟩, by rw [e0, e1]; rfl⟩
    have hrow' : ∀ x ∈ (List.range len0).map fun i => Value.agg #[V0 i, V1 i], x = rowAs zIv x ∧ x.cells.size = 2 ∧ ∀ y ∈ x.cells.toList, y.oneCell' = true := by
      intro x hx
      obtain ⟨a, _, rfl⟩ := hrow x hx
      exact ⟨rfl, rfl, fun y hy => by simp [cIv, Value.cells] at hy; rcases hy with rfl | rfl <;> rfl⟩
    by_cases h0 : len0 = 0
    · subst h0
      refine ⟨[], ⟨none, some a, 0, m, 2⟩, rfl, ⟨rfl, fun r hr => by simp at hr, Nat.zero_lt_two, Nat.zero_le _, rfl, Or.inl ⟨rfl, rfl, fun hh => by cases hh⟩, fun hh => by cases hh⟩, (fun k hk => by cases hk), by simp, fun x hx => by simp at hx⟩
    · obtain ⟨k, o, sp⟩ := a
      have hc0 := (hcell 0 (by omega)).1
      have hsp := World.cell?_spot hc0
      simp [Addr.add] at hsp
      subst hsp
      obtain ⟨c, ty, fz, hk, _⟩ := cell_block (k := k) (o := o + 0 * 2) hc0
      have hat : ∀ j u, w.cell? ⟨k, o + j, none⟩ = some u → (c.toList.drop o)[j]? = some u := by
        intro j u hu
        obtain ⟨c', ty', fz', hk', hcj⟩ := cell_block hu
        rw [hk] at hk'
        simp only [Option.some.injEq, Obj.cells.injEq] at hk'
        rw [hk'.1, List.getElem?_drop, Array.getElem?_toList]
        exact hcj
      have htake : ∀ n, n ≤ len0 → (c.toList.drop o).take (n * 2) = flat ((List.range n).map fun i => Value.agg #[V0 i, V1 i]) := by
        intro n
        induction n with
        | zero => intro _; rfl
        | succ n ih =>
          intro hn
          obtain ⟨q0, q1, _, _⟩ := hcell n (by omega)
          have q0' := hat (n * 2) (V0 n) (by rw [Go.WideShapes.add_plain] at q0; exact q0)
          have q1' := hat (n * 2 + 1) (V1 n) (by rw [Go.WideShapes.add_plain] at q1; rw [← Nat.add_assoc] at q1; exact q1)
          rw [show (n + 1) * 2 = n * 2 + 1 + 1 by omega, List.take_add_one, List.take_add_one, ih (by omega), q0', q1', List.range_succ, List.map_append]
          obtain ⟨n0, n1, e0, e1, _, _⟩ := hcell' n (by omega)
          simp [flat, e0, e1, Value.cells]
      have hkl : k < w.heap.size := (Array.getElem?_eq_some_iff.1 hk).1
      refine ⟨_, ⟨some k, some ⟨k, o, none⟩, len0, m, 2⟩, rfl, ⟨by simp, hrow', Nat.zero_lt_two, hl, rfl, Or.inr ⟨k, o, c, ty, fz, rfl, rfl, hk, ?_⟩, fun hh => by cases hh⟩, fun k' hk' => ?_, hlen, hrow⟩
      · rw [List.length_map, List.length_range]
        exact htake len0 (Nat.le_refl _)
      · simp only [Option.some.injEq] at hk'
        omega
end
end Go.RX
