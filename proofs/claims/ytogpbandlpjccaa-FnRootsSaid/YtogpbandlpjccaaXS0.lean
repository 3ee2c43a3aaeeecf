/- The searches for all roots, said of rows as the print has them. -/
import Derived.Test.YtogpbandlpjccaaXF0
set_option linter.unusedVariables false
set_option linter.unusedSimpArgs false
namespace Go.Proofs.Ytogpbandlpjccaa.TX
open Go.RowKit Go.Proofs.YtogpbandlpjccaaW.PrintWords Go.RX
def qfF (l : List S31) : List Value := l.map fun x => Value.agg #[.int .i64 x.f0, .int .i64 x.f1]
def toS (x : Iv) : S31 := ⟨x.lo, x.hi⟩
theorem qe7 (l : List S31) : (qfF l).length = l.length := by simp [qfF]
theorem rowsI_row (l : List S31) : ∀ x ∈ qfF l, x = rowAs zIv x ∧ x.cells.size = 2 ∧ ∀ y ∈ x.cells.toList, y.oneCell' = true := by
 intro x hx
 simp only [qfF, List.mem_map] at hx
 obtain ⟨a, _, rfl⟩ := hx
 exact ⟨rfl, rfl, fun y hy => by simp [Value.cells] at hy; rcases hy with rfl | rfl <;> rfl⟩
theorem rd_of_C {w : World} {A : Option Addr} {c : Nat} {l : List S31} (hC : Kd.C k31 w A l.length l) (hc : l.length ≤ c) : ∃ pl : Pl, pl.ha = A ∧ pl.hl = l.length ∧ pl.hc = c ∧ Rd pl (qfF l) w := by
 by_cases h0 : l.length = 0
 ·have e0 : l = [] := List.eq_nil_of_length_eq_zero h0
  subst e0
  exact ⟨⟨none, A, 0, c, 2⟩, rfl, rfl, rfl, ⟨rfl, fun r hr => by simp [qfF] at hr, Nat.zero_lt_two, Nat.zero_le _, rfl, Or.inl ⟨rfl, rfl, fun hh => by cases hh⟩, fun hh => by cases hh⟩⟩
 ·obtain ⟨ad, rfl, hcell⟩ := hC.2.2 (by omega)
  have key : ∀ j x, l[j]? = some x → w.cell? (ad.add (j * 2)) = some (.int .i64 x.f0) ∧ w.cell? (ad.add (j * 2 + 1)) = some (.int .i64 x.f1) := by
   intro j x hx
   obtain ⟨cs, _, hK, hcs⟩ := hcell j x hx
   obtain rfl := k31_open hK
   exact ⟨hcs 0 _ rfl, hcs 1 _ rfl⟩
  obtain ⟨x0, hx0⟩ : ∃ x, l[0]? = some x := ⟨_, List.getElem?_eq_getElem (by omega)⟩
  obtain ⟨k, o, sp⟩ := ad
  have hc0 := (key 0 x0 hx0).1
  have hsp := World.cell?_spot hc0
  simp [Addr.add] at hsp
  subst hsp
  obtain ⟨cs, ty, fz, hk, _⟩ := cell_block (k := k) (o := o + 0 * 2) hc0
  have hat : ∀ j u, w.cell? ⟨k, o + j, none⟩ = some u → (cs.toList.drop o)[j]? = some u := by
   intro j u hu
   obtain ⟨c', ty', fz', hk', hcj⟩ := cell_block hu
   rw [hk] at hk'
   simp only [Option.some.injEq, Obj.cells.injEq] at hk'
   rw [hk'.1, List.getElem?_drop, Array.getElem?_toList]
   exact hcj
  have htake : ∀ n, n ≤ l.length → (cs.toList.drop o).take (n * 2) = flat (qfF (l.take n)) := by
   intro n
   induction n with
   | zero => intro _; rfl
   | succ n ih =>
    intro hn
    have hg : l[n]? = some l[n] := List.getElem?_eq_getElem (by omega)
    obtain ⟨q0, q1⟩ := key n _ hg
    have q0' := hat (n * 2) _ (by rw [Go.WideShapes.add_plain] at q0; exact q0)
    have q1' := hat (n * 2 + 1) _ (by rw [Go.WideShapes.add_plain] at q1; rw [← Nat.add_assoc] at q1; exact q1)
    rw [show (n + 1) * 2 = n * 2 + 1 + 1 by omega, List.take_add_one, List.take_add_one, ih (by omega), q0', q1', show l.take (n + 1) = l.take n ++ [l[n]] by rw [List.take_add_one, hg]; rfl]
    simp only [qfF, List.map_append, List.map_cons, List.map_nil, flat, List.flatMap_append, Option.toList_some, List.append_assoc]
    rfl
  refine ⟨⟨some k, some ⟨k, o, none⟩, l.length, c, 2⟩, rfl, rfl, rfl, ⟨(qe7 l).symm, rowsI_row l, Nat.zero_lt_two, hc, rfl, Or.inr ⟨k, o, cs, ty, fz, rfl, rfl, hk, ?_⟩, fun hh => by cases hh⟩⟩
  rw [qe7]
  have := htake l.length (Nat.le_refl _)
  rwa [List.take_length] at this
theorem R_map {w : World} {b : Nat} {v : Value} {xs : List Iv} {ok : Nat → Prop} (h : kIv.R 31 w b ok v xs) {ok' : Nat → Prop} (hok : ∀ k, v.ownBlock = some k → ok' k) : Kd.R k31 31 w b ok' v (xs.map toS) := by
 obtain ⟨_, inner, ho, hr⟩ := h
 refine ⟨hok, inner, by rw [List.length_map]; exact ho, by rw [List.length_map]; exact hr.1, fun j p hj => ?_⟩
 rw [List.getElem?_map] at hj
 cases hx : xs[j]? with
 | none => rw [hx] at hj; simp at hj
 | some x =>
  rw [hx] at hj
  simp only [Option.map_some, Option.some.injEq] at hj
  subst hj
  obtain ⟨c0, c1, h1, h2, h3⟩ := hr.2 j x hx
  exact ⟨c0, c1, h1, h2, h3⟩
end Go.Proofs.Ytogpbandlpjccaa.TX
