/- Rows: an argument that is a slice of bytes, opened. -/
import Derived.Test.YtogpbandlpjccaaGreatDoorRxO
import Derived.Deep.Slices
set_option linter.unusedSimpArgs false
set_option linter.unusedVariables false
namespace Go.RX
open Go.ChangeShapes Go.WideShapes Go.ChangeAt Go.RowKit
section
variable {H : Type} {enc : TypeId × Value → H} {P : Program} {w : World} {base b0 : Nat} {r : Reach} {held : Bool} {t e : TypeId} {v : Value} {d : DataW H} {p : List MemPlace}
theorem openB (hs : P.underlying t = some (.slice e)) (he : P.underlying e = some (.int .u8)) (hc1 : P.cellsOf e = 1) (hv : Value.okWide P w r b0 t v) (h : DataW.Trod enc P w base (fun _ => true) held t v d p) :
  ∃ (rows : List Value) (pl : Pl), v = .slice pl.ha pl.hl pl.hc ∧ Lst pl (.int .u8 0) rows false e w ∧ (∀ k, pl.adr = some k → k < w.heap.size) ∧ ∀ x ∈ rows, 0 ≤ cI x ∧ cI x ≤ 255 := by
 obtain ⟨a0, len0, cap0, rfl⟩ := okWide_slice hs hv
 obtain ⟨fuel, hf⟩ := h
 rcases Go.Deep.open_slice hs hf with ⟨hc, hx⟩ | ⟨a, len, cap, m, n, D, Pq, hc, hb, hl, hm, hmm, hx, hcell⟩
 ·simp [Value.cells] at hc
  obtain ⟨rfl, rfl, rfl⟩ := hc
  refine ⟨[], ⟨none, none, 0, 0, 1⟩, rfl, ⟨rfl, fun r hr => by simp at hr, Nat.zero_lt_one, Nat.le_refl _, rfl, Or.inl ⟨rfl, rfl, fun hh => by cases hh⟩, fun hh => by cases hh⟩, (fun k hk => by cases hk), fun x hx => by simp at hx⟩
 ·simp only [Value.cells, List.cons.injEq, Value.slice.injEq, and_true] at hc
  obtain ⟨rfl, rfl, rfl⟩ := hc
  simp only [if_true] at hmm
  subst hmm
  have hcell' : ∀ i, i < m → ∃ n0 : Int, w.cell? (a.add i) = some (.int .u8 n0) ∧ 0 ≤ n0 ∧ n0 ≤ 255 := by
   intro i hi
   obtain ⟨cs', h1, h2⟩ := hcell i hi
   obtain ⟨n0, rfl, _, hw⟩ := DataW.trod_int he h2
   rw [hc1] at h1
   obtain ⟨_, _, h3⟩ := World.cells?_some h1
   have h4 := h3 0 (by omega)
   rw [Nat.mul_one] at h4
   have e0 : (a.add i).add 0 = a.add i := by simp [Addr.add]
   rw [e0] at h4
   simp only [Lit.wf, Bool.and_eq_true, decide_eq_true_eq] at hw
   exact ⟨n0, h4, hw⟩
  by_cases h0 : len0 = 0
  ·subst h0
   refine ⟨[], ⟨none, some a, 0, m, 1⟩, rfl, ⟨rfl, fun r hr => by simp at hr, Nat.zero_lt_one, Nat.zero_le _, rfl, Or.inl ⟨rfl, rfl, fun hh => by cases hh⟩, fun hh => by cases hh⟩, (fun k hk => by cases hk), fun x hx => by simp at hx⟩
  ·obtain ⟨k, o, sp⟩ := a
   obtain ⟨z0, hz0, _⟩ := hcell' 0 (by omega)
   have hsp := World.cell?_spot hz0
   simp [Addr.add] at hsp
   subst hsp
   obtain ⟨c, ty, fz, hk, _⟩ := cell_block (k := k) (o := o + 0) hz0
   have hat : ∀ j, j < m → ∃ n0 : Int, (c.toList.drop o)[j]? = some (.int .u8 n0) ∧ 0 ≤ n0 ∧ n0 ≤ 255 := by
    intro j hj
    obtain ⟨n0, h1, h2⟩ := hcell' j hj
    rw [Go.WideShapes.add_plain] at h1
    obtain ⟨c', ty', fz', hk', hcj⟩ := cell_block (k := k) (o := o + j) h1
    rw [hk] at hk'
    simp only [Option.some.injEq, Obj.cells.injEq] at hk'
    refine ⟨n0, ?_, h2⟩
    rw [hk'.1, List.getElem?_drop, Array.getElem?_toList]
    exact hcj
   have hkl : k < w.heap.size := (Array.getElem?_eq_some_iff.1 hk).1
   have hlen : ((c.toList.drop o).take len0).length = len0 := by
    obtain ⟨_, h1, _⟩ := hat (len0 - 1) (by omega)
    have := (List.getElem?_eq_some_iff.1 h1).1
    rw [List.length_take]
    omega
   have hmem : ∀ x ∈ (c.toList.drop o).take len0, ∃ n0 : Int, x = .int .u8 n0 ∧ 0 ≤ n0 ∧ n0 ≤ 255 := by
    intro x hx
    obtain ⟨j, hj⟩ := List.getElem?_of_mem hx
    have hjl := (List.getElem?_eq_some_iff.1 hj).1
    rw [hlen] at hjl
    rw [List.getElem?_take_of_lt hjl] at hj
    obtain ⟨n0, h1, h2⟩ := hat j (by omega)
    rw [h1] at hj
    exact ⟨n0, (Option.some.inj hj).symm, h2⟩
   have hflat : ∀ l : List Value, (∀ x ∈ l, ∃ n0 : Int, x = .int .u8 n0 ∧ 0 ≤ n0 ∧ n0 ≤ 255) → flat l = l := by
    intro l
    induction l with
    | nil => intro _; rfl
    | cons x l ih =>
     intro hh
     obtain ⟨n0, rfl, _⟩ := hh x (by simp)
     show (Value.int .u8 n0).cells.toList ++ flat l = _
     rw [ih fun y hy => hh y (by simp [hy])]
     rfl
   refine ⟨(c.toList.drop o).take len0, ⟨some k, some ⟨k, o, none⟩, len0, m, 1⟩, rfl, ⟨hlen.symm, fun x hx => ?_, Nat.zero_lt_one, hl, rfl, Or.inr ⟨k, o, c, ty, fz, rfl, rfl, hk, ?_⟩, fun hh => by cases hh⟩, fun k' hk' => ?_, fun x hx => ?_⟩
   ·obtain ⟨n0, rfl, _⟩ := hmem x hx
    exact ⟨rfl, rfl, fun y hy => by simp [Value.cells] at hy; subst hy; rfl⟩
   ·rw [hflat _ hmem, hlen, Nat.mul_one]
   ·simp only [Option.some.injEq] at hk'
    omega
   ·obtain ⟨n0, rfl, h2⟩ := hmem x hx
    exact h2
end
end Go.RX
