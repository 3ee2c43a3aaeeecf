/- What the printed functions come to: products of polynomials, draws. -/
import Derived.Test.YtogpbandlpjccaaXF3
import Derived.Test.YtogpbandlpjccaaFI
import Derived.Laws.BitsAllLaws
set_option linter.unusedVariables false
set_option linter.unusedSimpArgs false
namespace Go.Proofs.Ytogpbandlpjccaa.TX
open Go.RowKit Go.Proofs.YtogpbandlpjccaaW.PrintWords Go.Proofs.YtogpbandlpjccaaW.PrintLast Go.Proofs.YtogpbandlpjccaaW.PrintMore
theorem qcH {x : Int} (h0 : -9223372036854775808 ≤ x) (h1 : x ≤ 9223372036854775807) : wrap64 x = x := by unfold wrap64; omega
theorem qhN {α : Type} {g : Nat → Option α} {r : α} (h : ∀ k, g (k + 1) = some r) : Ev g r := Ev.step (f := fun _ => some r) h (Ev.now r)
theorem rd_at (xs : List S31) (i : Nat) (h : i < xs.length) : qaN xs (i : Int) = xs[i] := by
 unfold qaN; simp [List.getD, h]
def okI (a b : Int) : Bool := decide (-1152921504606846976 < a ∧ a ≤ b ∧ b < 1152921504606846976)
theorem validI_f (a b : Int) : qa0.f a b = some (okI a b) := by
 unfold qa0.f okI
 by_cases h1 : (-1152921504606846976) < a
 ·by_cases h2 : a ≤ b
  ·simp [h1, h2]
  ·simp [h1, h2]
 ·simp [h1]
def addI (p q : Int × Int) : Int × Int := ((Go.G880.qbV ⟨p.1, p.2⟩ ⟨q.1, q.2⟩).lo, (Go.G880.qbV ⟨p.1, p.2⟩ ⟨q.1, q.2⟩).hi)
def mulI (p q : Int × Int) : Int × Int := ((Go.G880.qbJ ⟨p.1, p.2⟩ ⟨q.1, q.2⟩).lo, (Go.G880.qbJ ⟨p.1, p.2⟩ ⟨q.1, q.2⟩).hi)
theorem implAdd_f (a b c d : Int) : qbV.f a b c d = some (addI (a, b) (c, d)) := rfl
theorem implMul_f (a b c d : Int) : qbJ.f a b c d = some (mulI (a, b) (c, d)) := rfl
def okX (x : S31) : Bool := okI x.f0 x.f1
def okL (l : List S31) : Bool := Go.G880.qaQ (qfF l)
theorem qhW (l : List S31) (hl : l.length ≤ 2000000) : ∀ (rest pre : List S31), l = pre ++ rest → pre.all okX = true → ∃ r : Int, Ev (fun k => qa1.l0 k l (l.length : Nat) (pre.length : Nat)) r ∧ decide (r ≥ 0) = !(l.all okX) := by
 intro rest
 induction rest with
 | nil =>
  intro pre hp ha
  rw [List.append_nil] at hp
  subst hp
  refine ⟨-1, qhN fun k => ?_, by rw [ha]; rfl⟩
  simp only [qa1.l0]
  rw [if_neg (by omega)]
 | cons b rest ih =>
  intro pre hp ha
  have hi : pre.length < l.length := by rw [hp]; simp
  have hb : l[pre.length] = b := by simp [hp]
  by_cases hok : okX b = true
  ·obtain ⟨r, hr, hd⟩ := ih (pre ++ [b]) (by rw [hp]; simp) (by rw [List.all_append, ha]; simp [hok])
   refine ⟨r, Ev.step (f := fun k => qa1.l0 k l (l.length : Nat) (((pre ++ [b]).length : Nat) : Int)) (fun k => ?_) hr, hd⟩
   simp only [qa1.l0, qaO.f]
   rw [if_pos (by omega), if_pos (by omega), if_pos (by omega), rd_at l _ hi, hb, validI_f, Option.bind_some, Option.bind_some, if_neg (by unfold okX at hok; rw [hok]; simp), qcH (by omega) (by omega)]
   simp
  ·refine ⟨(pre.length : Nat), qhN fun k => ?_, ?_⟩
   ·simp only [qa1.l0, qaO.f]
    rw [if_pos (by omega), if_pos (by omega), if_pos (by omega), rd_at l _ hi, hb, validI_f, Option.bind_some, Option.bind_some, if_pos (by unfold okX at hok; simp [hok])]
   ·rw [decide_eq_true (by omega), hp, List.all_append]
    simp [hok]
theorem contains_ev (l : List S31) (hl : l.length ≤ 2000000) : Ev (fun k => qcI.f k l 0) (!(l.all okX)) := by
 obtain ⟨r, ⟨K, hK⟩, hd⟩ := qhW l hl l [] rfl rfl
 refine ⟨K, fun k hk => ?_⟩
 have e : qa1.l0 k l (l.length : Nat) 0 = some r := hK k hk
 simp only [qcI.f, qa1.f]
 rw [e, Option.bind_some, hd]
theorem validPoly_ev (l : List S31) (hl : l.length ≤ 1048576) : Ev (fun _ => qaQ.f l) (okL l) := Ev.congr (fun _ => by unfold qaQ.f; rw [if_pos hl]; rfl) (Ev.now (okL l))
theorem known_ev (l : List S31) (hl : l.length ≤ 2000000) : Ev (fun k => qdB.f k l) (if l.all okX = true then (l, 0) else ([], 9)) := by
 obtain ⟨K, hK⟩ := contains_ev l hl
 refine ⟨K, fun k hk => ?_⟩
 have e := hK k hk
 simp only at e
 simp only [qdB.f]
 rw [e, Option.bind_some]
 by_cases h : l.all okX = true
 ·rw [if_pos h, h, if_neg (by simp)]
 ·have h' : l.all okX = false := by simpa using h
  rw [if_neg h, h', if_pos (by rfl)]
def pr31 (x : S31) : Int × Int := (x.f0, x.f1)
def mk31 (p : Int × Int) : S31 := ⟨p.1, p.2⟩
def coefN (A B : List S31) (j : Nat) : Nat → Int × Int
 | 0 => (0, 0)
 | n + 1 => if n ≤ j ∧ j - n < B.length then addI (coefN A B j n) (mulI (pr31 (A.getD n z31)) (pr31 (B.getD (j - n) z31))) else coefN A B j n
def outN (A B : List S31) (n : Nat) : List S31 := (List.range n).map fun j => mk31 (coefN A B j A.length)
theorem rd_nat (xs : List S31) (i : Nat) : qaN xs (i : Int) = xs.getD i z31 := by
 unfold qaN; rw [Int.toNat_natCast]
def mulP (A B : List S31) : List S31 × Int := if okL A = true ∧ okL B = true then (if A.length + B.length - 1 ≤ 17 then (if (outN A B (A.length + B.length - 1)).all okX = true then (outN A B (A.length + B.length - 1), 0) else ([], 9)) else ([], 5)) else ([], 1)
theorem okL_len {l : List S31} (hl : l.length ≤ 1048576) (h : okL l = true) : 1 ≤ l.length ∧ l.length ≤ 17 := by
 unfold okL at h
 rw [Go.G880.qgO _ (by rw [qe7]; omega)] at h
 have := Go.G880.qhL (by rw [qe7]; omega) h
 rw [qe7] at this
 omega
def st31 (A B : List S31) (i t : Nat) : List S31 := (List.range (A.length + B.length - 1)).map fun j => mk31 (coefN A B j (if i ≤ j ∧ j < i + t then i + 1 else i))
theorem st_len (A B : List S31) (i t : Nat) : (st31 A B i t).length = A.length + B.length - 1 := by simp [st31]
theorem st_get (A B : List S31) (i t j : Nat) (h : j < A.length + B.length - 1) : (st31 A B i t).getD j z31 = mk31 (coefN A B j (if i ≤ j ∧ j < i + t then i + 1 else i)) := by
 unfold st31
 simp [List.getD, h]
theorem st_next (A B : List S31) (i : Nat) : st31 A B i B.length = st31 A B (i + 1) 0 := by
 unfold st31
 apply List.map_congr_left
 intro j hj
 rw [if_neg (c := i + 1 ≤ j ∧ j < i + 1 + 0) (by omega)]
 by_cases h : i ≤ j ∧ j < i + B.length
 ·rw [if_pos h]
 ·rw [if_neg h, coefN, if_neg (by omega)]
theorem st_zero (A B : List S31) : st31 A B 0 0 = List.replicate (A.length + B.length - 1) z31 := by
 apply List.ext_getElem
 ·simp [st31]
 ·intro j h1 h2
  simp [st31, coefN, mk31, z31]
theorem st_out (A B : List S31) : st31 A B A.length 0 = outN A B (A.length + B.length - 1) := by
 unfold st31 outN
 apply List.map_congr_left
 intro j hj
 rw [if_neg (by omega)]
theorem st_set (A B : List S31) (i t : Nat) (ht : t < B.length) (hi : i < A.length) :
  (st31 A B i t).set (i + t) (mk31 (addI (coefN A B (i + t) i) (mulI (pr31 (A.getD i z31)) (pr31 (B.getD t z31))))) = st31 A B i (t + 1) := by
 apply List.ext_getElem
 ·simp [st31]
 ·intro j h1 h2
  have hj : j < A.length + B.length - 1 := by simpa [st31] using h2
  rw [List.getElem_set]
  by_cases e : i + t = j
  ·subst e
   simp only [st31, List.getElem_map, List.getElem_range]
   rw [if_pos trivial, if_pos (by omega), coefN, if_pos (by omega), show i + t - i = t by omega]
  ·simp only [st31, List.getElem_map, List.getElem_range]
   rw [if_neg e]
   by_cases h : i ≤ j ∧ j < i + t
   ·rw [if_pos h, if_pos (by omega)]
   ·rw [if_neg h, if_neg (by omega)]
theorem implL1 (A B : List S31) (i : Nat) (hA : A.length ≤ 17) (hB : B.length ≤ 17) (hi : i < A.length) (R : List S31 × Int)
  (h : Ev (fun k => qaL.l0 k B (st31 A B (i + 1) 0) A (A.length : Nat) ((i : Int) + 1)) R) :
  ∀ m t, t + m = B.length → Ev (fun k => qaL.l1 k B (st31 A B i t) (i : Nat) A (A.length : Nat) (i : Nat) B (B.length : Nat) (t : Nat) (A.getD i z31).f0 (A.getD i z31).f1) R := by
 intro m
 induction m with
 | zero =>
  intro t ht
  refine Ev.step (fun k => ?_) h
  simp only [qaL.l1]
  rw [if_neg (by omega), qcH (by omega) (by omega), show t = B.length by omega, st_next]
 | succ m ih =>
  intro t ht
  refine Ev.step (fun k => ?_) (ih (t + 1) (by omega))
  simp only [qaL.l1]
  rw [if_pos (by omega), if_pos (by omega), if_pos (by omega), qcH (x := (i : Int) + (t : Int)) (by omega) (by omega), qcH (x := (t : Int) + 1) (by omega) (by omega), if_pos (by omega), if_pos (by rw [st_len]; omega), implMul_f, Option.bind_some, implAdd_f, Option.bind_some, rd_nat, show (i : Int) + (t : Int) = ((i + t : Nat) : Int) by omega, rd_nat, st_get _ _ _ _ _ (by omega), if_neg (by omega), Int.toNat_natCast]
  have es := st_set A B i t (by omega) hi
  rw [← es]
  simp only [Int.natCast_add, Int.natCast_one]
  rfl
theorem implL0 (A B : List S31) (hA1 : 1 ≤ A.length) (hA : A.length ≤ 17) (hB1 : 1 ≤ B.length) (hB : B.length ≤ 17) (hN : A.length + B.length - 1 ≤ 17) : ∀ m i, i + m = A.length →
  Ev (fun k => qaL.l0 k B (st31 A B i 0) A (A.length : Nat) (i : Nat)) (if (outN A B (A.length + B.length - 1)).all okX = true then (outN A B (A.length + B.length - 1), 0) else ([], 9)) := by
 intro m
 induction m with
 | zero =>
  intro i hi
  have e := known_ev (outN A B (A.length + B.length - 1)) (by simp [outN]; omega)
  refine Ev.step (fun k => ?_) e
  simp only [qaL.l0]
  rw [if_neg (by omega), show i = A.length by omega, st_out]
  cases qdB.f k (outN A B (A.length + B.length - 1)) <;> rfl
 | succ m ih =>
  intro i hi
  have e := ih (i + 1) (by omega)
  have f := implL1 A B i hA hB (by omega) _ (by simpa only [Int.natCast_add, Int.natCast_one] using e) B.length 0 (by omega)
  refine Ev.step (fun k => ?_) f
  simp only [qaL.l0]
  rw [if_pos (by omega), if_pos (by omega), if_pos (by omega), rd_nat]
  rfl
theorem impl_ev (A B : List S31) (hA : A.length ≤ 1048576) (hB : B.length ≤ 1048576) : Ev (fun k => qaL.f k A B) (mulP A B) := by
 obtain ⟨K1, h1⟩ := validPoly_ev A hA
 obtain ⟨K2, h2⟩ := validPoly_ev B hB
 by_cases hok : okL A = true ∧ okL B = true
 ·have lA := okL_len hA hok.1
  have lB := okL_len hB hok.2
  by_cases hN : A.length + B.length - 1 ≤ 17
  ·obtain ⟨K3, h3⟩ := implL0 A B lA.1 lA.2 lB.1 lB.2 hN _ 0 (Nat.zero_add _)
   refine ⟨K1 + K2 + K3 + 1, fun k hk => ?_⟩
   obtain ⟨k', rfl⟩ : ∃ k', k = k' + 1 := ⟨k - 1, by omega⟩
   have e1 := h1 (k' + 1) (by omega)
   have e2 := h2 (k' + 1) (by omega)
   have e3 := h3 k' (by omega)
   simp only at e1 e2 e3
   simp only [qaL.f]
   rw [e1, Option.bind_some, hok.1, if_pos rfl, e2, Option.bind_some, hok.2]
   simp only [qaL.j0]
   rw [if_neg (by simp), qcH (x := (A.length : Int) + (B.length : Int)) (by omega) (by omega), qcH (by omega) (by omega), if_neg (by omega), if_pos (by omega), if_pos (by omega), show ((A.length : Int) + (B.length : Int) - 1).toNat = A.length + B.length - 1 by omega, ← st_zero]
   unfold mulP
   rw [if_pos hok, if_pos hN]
   exact e3
  ·refine ⟨K1 + K2 + 1, fun k hk => ?_⟩
   obtain ⟨k', rfl⟩ : ∃ k', k = k' + 1 := ⟨k - 1, by omega⟩
   have e1 := h1 (k' + 1) (by omega)
   have e2 := h2 (k' + 1) (by omega)
   simp only at e1 e2
   simp only [qaL.f]
   rw [e1, Option.bind_some, hok.1, if_pos rfl, e2, Option.bind_some, hok.2]
   simp only [qaL.j0]
   rw [if_neg (by simp), qcH (x := (A.length : Int) + (B.length : Int)) (by omega) (by omega), qcH (by omega) (by omega), if_pos (by omega)]
   unfold mulP
   rw [if_pos hok, if_neg hN]
 ·refine ⟨K1 + K2 + 1, fun k hk => ?_⟩
  obtain ⟨k', rfl⟩ : ∃ k', k = k' + 1 := ⟨k - 1, by omega⟩
  have e1 := h1 (k' + 1) (by omega)
  have e2 := h2 (k' + 1) (by omega)
  simp only at e1 e2
  simp only [qaL.f]
  rw [e1, Option.bind_some]
  unfold mulP
  rw [if_neg hok]
  by_cases hA' : okL A = true
  ·have hB' : okL B = false := by
    cases hb : okL B
    ·rfl
    ·exact absurd ⟨hA', hb⟩ hok
   rw [hA', if_pos rfl, e2, Option.bind_some, hB']
   rfl
  ·rw [if_neg hA']
   rfl
theorem wrapU (x : Int) : 0 ≤ IntKind.u64.wrap x ∧ IntKind.u64.wrap x < 18446744073709551616 := by
 have e : IntKind.u64.wrap x = x % 18446744073709551616 := rfl
 rw [e]
 omega
theorem and255 (x : Int) (h0 : 0 ≤ x) (h1 : x < 18446744073709551616) : 0 ≤ Go.bits .and .u64 x 255 ∧ Go.bits .and .u64 x 255 ≤ 255 := by
 rw [Go.u64_and x 255 h0 h1 (by omega) (by omega)]
 have := @Nat.and_le_right x.toNat (255 : Int).toNat
 have e : (255 : Int).toNat = 255 := rfl
 rw [e] at this ⊢
 omega
def Bytes (l : List Int) : Prop := ∀ x ∈ l, 0 ≤ x ∧ x ≤ 255
theorem rd_byte {l : List Int} (h : Bytes l) (i : Int) : 0 ≤ rd l i ∧ rd l i ≤ 255 := by
 unfold rd
 by_cases hi : i.toNat < l.length
 ·have e : l.getD i.toNat 0 = l[i.toNat] := by simp [List.getD, hi]
  rw [e]
  exact h _ (List.getElem_mem hi)
 ·have e : l.getD i.toNat 0 = 0 := by simp [List.getD, Nat.le_of_not_lt hi]
  rw [e]
  omega
theorem next_ex {l : List Int} (hl : Bytes l) (hn : (l.length : Int) ≤ 2000000) (a s : Int) (h0 : 0 ≤ a) (h1 : a ≤ 1000000000) : ∃ x s', qcV.f l a s = some (x, a + 1, s') ∧ 0 ≤ x ∧ x ≤ 255 := by
 have ew : wrap64 (a + 1) = a + 1 := qcH (by omega) (by omega)
 have hr := rd_byte hl a
 have er : wrap64 (rd l a) = rd l a := qcH (by omega) (by omega)
 have q : ∀ y : Int, 0 ≤ IntKind.u64.wrap y / 1099511627776 ∧ IntKind.u64.wrap y / 1099511627776 < 18446744073709551616 := by
  intro y
  have := wrapU y
  omega
 have qq : ∀ y : Int, 0 ≤ wrap64 (Go.bits .and .u64 (IntKind.u64.wrap y / 1099511627776) 255) ∧ wrap64 (Go.bits .and .u64 (IntKind.u64.wrap y / 1099511627776) 255) ≤ 255 := by
  intro y
  have b := and255 _ (q y).1 (q y).2
  rw [qcH (by omega) (by omega)]
  exact b
 simp only [qcV.f, ew, er]
 by_cases c1 : a < (l.length : Int)
 ·rw [if_pos c1, if_pos h0, if_pos (by omega)]
  exact ⟨_, _, rfl, hr.1, hr.2⟩
 ·rw [if_neg c1, if_neg (by omega)]
  exact ⟨_, _, rfl, (qq _).1, (qq _).2⟩
theorem tmod_rng {x n : Int} (h0 : 0 ≤ x) (hn : 0 < n) : 0 ≤ Int.tmod x n ∧ Int.tmod x n < n := ⟨Int.tmod_nonneg n h0, Int.tmod_lt_of_pos x hn⟩
theorem pick_ex {l : List Int} (hl : Bytes l) (hn : (l.length : Int) ≤ 2000000) (a s n : Int) (h0 : 0 ≤ a) (h1 : a ≤ 900000000) : ∃ x a' s', qc4.f l a s n = some (x, a', s') ∧ 0 ≤ x ∧ (1 ≤ n → x < n) ∧ a ≤ a' ∧ a' ≤ a + 2 := by
 simp only [qc4.f]
 by_cases c1 : n ≤ 1
 ·rw [if_pos c1]
  exact ⟨0, a, s, rfl, by omega, fun h => by omega, by omega, by omega⟩
 rw [if_neg c1]
 obtain ⟨x, s', e, x0, x1⟩ := next_ex hl hn a s h0 (by omega)
 rw [e, Option.bind_some]
 by_cases c2 : n > 200
 ·obtain ⟨y, s2, e2, y0, y1⟩ := next_ex hl hn (a + 1) s' (by omega) (by omega)
  simp only
  rw [if_pos c2, e2, Option.bind_some, if_neg (by omega)]
  simp only
  rw [qcH (x := x * 256) (by omega) (by omega), qcH (by omega) (by omega)]
  have t := tmod_rng (x := x * 256 + y) (n := n) (by omega) (by omega)
  exact ⟨_, _, _, rfl, t.1, fun _ => t.2, by (try dsimp only); omega, by (try dsimp only); omega⟩
 ·rw [if_neg c2, if_neg (by omega)]
  have t := tmod_rng (x := x) (n := n) x0 (by omega)
  exact ⟨_, _, _, rfl, t.1, fun _ => t.2, by (try dsimp only); omega, by (try dsimp only); omega⟩
end Go.Proofs.Ytogpbandlpjccaa.TX
