/- The draws as plain functions, and what the machine does with their state. -/
import Derived.Test.YtogpbandlpjccaaGreatDoorDR
import Derived.Test.YtogpbandlpjccaaGreatDoorRxQ
import Derived.Test.YtogpbandlpjccaaGreatDoorRK
import Derived.Laws.BitsAllLaws
set_option linter.unusedVariables false
set_option linter.unusedSimpArgs false
namespace Go.Proofs.YtogpbandlpjccaaGreatDoor.TX
open Go.RowKit Go.Proofs.YtogpbandlpjccaaGreatDoorW.PrintWords Go.RX
theorem wrap_small {x : Int} (h0 : -9223372036854775808 ≤ x) (h1 : x ≤ 9223372036854775807) : wrap64 x = x := by unfold wrap64; omega
theorem wrapU (x : Int) : 0 ≤ IntKind.u64.wrap x ∧ IntKind.u64.wrap x < 18446744073709551616 := by
 have e : IntKind.u64.wrap x = x % 18446744073709551616 := rfl
 rw [e]
 omega
theorem and255 (x : Int) (h0 : 0 ≤ x) (h1 : x < 18446744073709551616) : 0 ≤ Go.bits .and .u64 x 255 ∧ Go.bits .and .u64 x 255 ≤ 255 := by
 rw [Go.u64_and x 255 h0 h1 (by omega) (by omega)]
 have := @Nat.and_le_right x.toNat (255 : Int).toNat
 have e : (255 : Int).toNat = 255 := rfl
 rw [e] at this ⊢
 omega
def Bytes (l : List Int) : Prop := ∀ x ∈ l, 0 ≤ x ∧ x ≤ 255
theorem rd_byte {l : List Int} (h : Bytes l) (i : Int) : 0 ≤ rd l i ∧ rd l i ≤ 255 := by
 unfold rd
 by_cases hi : i.toNat < l.length
 ·have e : l.getD i.toNat 0 = l[i.toNat] := by simp [List.getD, hi]
  rw [e]
  exact h _ (List.getElem_mem hi)
 ·have e : l.getD i.toNat 0 = 0 := by simp [List.getD, Nat.le_of_not_lt hi]
  rw [e]
  omega
theorem next_ex {l : List Int} (hl : Bytes l) (hn : (l.length : Int) ≤ 2000000) (a s : Int) (h0 : 0 ≤ a) (h1 : a ≤ 1000000000) : ∃ x s', spec_l00Src_next.f l a s = some (x, a + 1, s') ∧ 0 ≤ x ∧ x ≤ 255 := by
 have ew : wrap64 (a + 1) = a + 1 := wrap_small (by omega) (by omega)
 have hr := rd_byte hl a
 have er : wrap64 (rd l a) = rd l a := wrap_small (by omega) (by omega)
 have q : ∀ y : Int, 0 ≤ IntKind.u64.wrap y / 1099511627776 ∧ IntKind.u64.wrap y / 1099511627776 < 18446744073709551616 := by
  intro y
  have := wrapU y
  omega
 have qq : ∀ y : Int, 0 ≤ wrap64 (Go.bits .and .u64 (IntKind.u64.wrap y / 1099511627776) 255) ∧ wrap64 (Go.bits .and .u64 (IntKind.u64.wrap y / 1099511627776) 255) ≤ 255 := by
  intro y
  have b := and255 _ (q y).1 (q y).2
  rw [wrap_small (by omega) (by omega)]
  exact b
 simp only [spec_l00Src_next.f, ew, er]
 by_cases c1 : a < (l.length : Int)
 ·rw [if_pos c1, if_pos h0, if_pos (by omega)]
  exact ⟨_, _, rfl, hr.1, hr.2⟩
 ·rw [if_neg c1, if_neg (by omega)]
  exact ⟨_, _, rfl, (qq _).1, (qq _).2⟩
theorem tmod_rng {x n : Int} (h0 : 0 ≤ x) (hn : 0 < n) : 0 ≤ Int.tmod x n ∧ Int.tmod x n < n := ⟨Int.tmod_nonneg n h0, Int.tmod_lt_of_pos x hn⟩
theorem pick_ex {l : List Int} (hl : Bytes l) (hn : (l.length : Int) ≤ 2000000) (a s n : Int) (h0 : 0 ≤ a) (h1 : a ≤ 900000000) : ∃ x a' s', spec_l00Src_pick.f l a s n = some (x, a', s') ∧ 0 ≤ x ∧ (1 ≤ n → x < n) ∧ a ≤ a' ∧ a' ≤ a + 2 := by
 simp only [spec_l00Src_pick.f]
 by_cases c1 : n ≤ 1
 ·rw [if_pos c1]
  exact ⟨0, a, s, rfl, by omega, fun h => by omega, by omega, by omega⟩
 rw [if_neg c1]
 obtain ⟨x, s', e, x0, x1⟩ := next_ex hl hn a s h0 (by omega)
 rw [e, Option.bind_some]
 by_cases c2 : n > 200
 ·obtain ⟨y, s2, e2, y0, y1⟩ := next_ex hl hn (a + 1) s' (by omega) (by omega)
  simp only
  rw [if_pos c2, e2, Option.bind_some, if_neg (by omega)]
  simp only
  rw [wrap_small (x := x * 256) (by omega) (by omega), wrap_small (by omega) (by omega)]
  have t := tmod_rng (x := x * 256 + y) (n := n) (by omega) (by omega)
  exact ⟨_, _, _, rfl, t.1, fun _ => t.2, by (try dsimp only); omega, by (try dsimp only); omega⟩
 ·rw [if_neg c2, if_neg (by omega)]
  have t := tmod_rng (x := x) (n := n) x0 (by omega)
  exact ⟨_, _, _, rfl, t.1, fun _ => t.2, by (try dsimp only); omega, by (try dsimp only); omega⟩
theorem among_ex {l : List Int} (hl : Bytes l) (hn : (l.length : Int) ≤ 2000000) (a s : Int) (m : List Int) (hm : 1 ≤ (m.length : Int)) (h0 : 0 ≤ a) (h1 : a ≤ 900000000) : ∃ x a' s', spec_l00Src_among.f l a s m = some (x, a', s') ∧ a ≤ a' ∧ a' ≤ a + 2 ∧ x ∈ m := by
 simp only [spec_l00Src_among.f]
 obtain ⟨x, a', s', e, x0, x1, a1, a2⟩ := pick_ex hl hn a s (m.length : Int) h0 h1
 have := x1 hm
 rw [e, Option.bind_some, if_pos x0, if_pos (by omega)]
 refine ⟨_, _, _, rfl, a1, a2, ?_⟩
 have hi : x.toNat < m.length := by omega
 have e2 : rd m x = m[x.toNat] := by unfold rd; simp [List.getD, hi]
 rw [e2]
 exact List.getElem_mem hi
theorem one_ex {l : List Int} (hl : Bytes l) (hn : (l.length : Int) ≤ 2000000) (a s n : Int) (h0 : 0 ≤ a) (h1 : a ≤ 900000000) : ∃ b a' s', spec_l00Src_one.f l a s n = some (b, a', s') ∧ a ≤ a' ∧ a' ≤ a + 2 := by
 simp only [spec_l00Src_one.f]
 obtain ⟨x, a', s', e, x0, x1, a1, a2⟩ := pick_ex hl hn a s n h0 h1
 rw [e, Option.bind_some]
 exact ⟨_, _, _, rfl, a1, a2⟩
theorem tmod_in (x n : Int) (hn : 0 < n) : -n < Int.tmod x n ∧ Int.tmod x n < n := by
 by_cases h : 0 ≤ x
 ·have := tmod_rng h hn; omega
 ·have := tmod_rng (x := -x) (by omega) hn
  have e : Int.tmod x n = -(Int.tmod (-x) n) := by rw [Int.neg_tmod, Int.neg_neg]
  omega
theorem shr_in {x m : Int} (q : Int) (h : -m ≤ x ∧ x ≤ m) : -m ≤ shr .i64 x q ∧ shr .i64 x q ≤ m := by
 unfold shr
 have hp : (0 : Int) < 2 ^ min q.toNat IntKind.i64.bits := Int.pow_pos (by omega)
 generalize (2 : Int) ^ min q.toNat IntKind.i64.bits = p at *
 by_cases hx : 0 ≤ x
 ·have h1 := Int.ediv_nonneg hx (Int.le_of_lt hp)
  have h2 := Int.ediv_le_self p hx
  omega
 ·have h1 : x / p ≤ 0 := Int.ediv_nonpos_of_nonpos_of_neg (by omega) (by omega)
  have h2 : x ≤ x / p := by
   refine (Int.le_ediv_iff_mul_le hp).2 ?_
   have := Int.mul_le_mul_of_nonpos_left (a := x) (b := p) (c := 1) (by omega) (by omega)
   omega
  omega
theorem number_end {l : List Int} (hl : Bytes l) (hn : (l.length : Int) ≤ 2000000) (most : Int) (hm : 1 ≤ most ∧ most ≤ 1000000000000) (k : Nat) (x a s : Int) (h0 : 0 ≤ a) (h1 : a ≤ 800000000) :
  ∃ r a' s', spec_l05Number.l0 (k + 1) most x 7 l a s = some (r, a', s') ∧ a ≤ a' ∧ a' ≤ a + 6 ∧ -most ≤ r ∧ r ≤ most := by
 have ht := tmod_in x (most + 1) (by omega)
 simp only [spec_l05Number.l0]
 have em : wrap64 (most + 1) = most + 1 := wrap_small (by omega) (by omega)
 rw [if_neg (by omega), em, if_neg (by omega)]
 obtain ⟨p, a1, s1, e1, p0, p1, b1, b2⟩ := pick_ex hl hn a s 5 h0 (by omega)
 rw [e1, Option.bind_some]
 by_cases c0 : p = 0
 ·rw [if_pos c0]
  obtain ⟨q, a2, s2, e2, q0, q1, d1, d2⟩ := pick_ex hl hn a1 s1 40 (by omega) (by omega)
  simp only
  rw [e2, Option.bind_some, if_pos (wrapU _).1]
  obtain ⟨o, a3, s3, e3, f1, f2⟩ := one_ex hl hn a2 s2 2 (by omega) (by omega)
  simp only
  rw [e3, Option.bind_some]
  cases o
  ·have hb := shr_in (IntKind.u64.wrap q) (x := Int.tmod x (most + 1)) (m := most) (by omega)
   exact ⟨_, _, _, rfl, by (try dsimp only); omega, by (try dsimp only); omega, hb.1, hb.2⟩
  ·have hb := shr_in (IntKind.u64.wrap q) (x := Int.tmod x (most + 1)) (m := most) (by omega)
   rw [wrap_small (by omega) (by omega)]
   exact ⟨_, _, _, rfl, by (try dsimp only); omega, by (try dsimp only); omega, by omega, by omega⟩
 ·rw [if_neg c0]
  by_cases c1 : p = 1
  ·rw [if_pos c1]
   obtain ⟨q, a2, s2, e2, d1, d2, hq⟩ := among_ex hl hn a1 s1 [0, 1, most, wrap64 (Int.tdiv most 2)] (by simp) (by omega) (by omega)
   have hqm : -most ≤ q ∧ q ≤ most := by
    have hd : 0 ≤ Int.tdiv most 2 ∧ Int.tdiv most 2 ≤ most := by rw [Int.tdiv_eq_ediv_of_nonneg (show 0 ≤ most by omega)]; omega
    rw [wrap_small (x := Int.tdiv most 2) (by omega) (by omega)] at hq
    simp only [List.mem_cons, List.not_mem_nil, or_false] at hq
    omega
   simp only
   rw [e2, Option.bind_some]
   obtain ⟨o, a3, s3, e3, f1, f2⟩ := one_ex hl hn a2 s2 2 (by omega) (by omega)
   simp only
   rw [e3, Option.bind_some]
   cases o
   ·have hb := hqm
    exact ⟨_, _, _, rfl, by (try dsimp only); omega, by (try dsimp only); omega, hb.1, hb.2⟩
   ·have hb := hqm
    rw [wrap_small (by omega) (by omega)]
    exact ⟨_, _, _, rfl, by (try dsimp only); omega, by (try dsimp only); omega, by omega, by omega⟩
  ·rw [if_neg c1]
   obtain ⟨o, a3, s3, e3, f1, f2⟩ := one_ex hl hn a1 s1 2 (by omega) (by omega)
   simp only
   rw [e3, Option.bind_some]
   cases o
   ·have hb := (show -most ≤ Int.tmod x (most + 1) ∧ Int.tmod x (most + 1) ≤ most by omega)
    exact ⟨_, _, _, rfl, by (try dsimp only); omega, by (try dsimp only); omega, hb.1, hb.2⟩
   ·have hb := (show -most ≤ Int.tmod x (most + 1) ∧ Int.tmod x (most + 1) ≤ most by omega)
    rw [wrap_small (by omega) (by omega)]
    exact ⟨_, _, _, rfl, by (try dsimp only); omega, by (try dsimp only); omega, by omega, by omega⟩
theorem number_loop {l : List Int} (hl : Bytes l) (hn : (l.length : Int) ≤ 2000000) (most : Int) (hm : 1 ≤ most ∧ most ≤ 1000000000000) : ∀ (d i : Nat), d + i = 7 → ∀ (k : Nat) (x a s : Int), 0 ≤ a → a ≤ 700000000 + (i : Int) →
  ∃ r a' s', spec_l05Number.l0 (k + 1 + d) most x (i : Int) l a s = some (r, a', s') ∧ a ≤ a' ∧ a' ≤ a + (d : Int) + 6 ∧ -most ≤ r ∧ r ≤ most := by
 intro d
 induction d with
 | zero =>
  intro i hi k x a s h0 h1
  obtain ⟨r, a', s', e, b1, b2, b3⟩ := number_end hl hn most hm k x a s h0 (by omega)
  have : (i : Int) = 7 := by omega
  rw [this]
  exact ⟨r, a', s', e, b1, by omega, b3⟩
 | succ d ih =>
  intro i hi k x a s h0 h1
  obtain ⟨y, s1, e, y0, y1⟩ := next_ex hl hn a s h0 (by omega)
  rw [show k + 1 + (d + 1) = (k + 1 + d) + 1 by omega]
  simp only [spec_l05Number.l0]
  rw [if_pos (by omega), e, Option.bind_some, wrap_small (x := (i : Int) + 1) (by omega) (by omega)]
  obtain ⟨r, a', s', e2, b1, b2, b3⟩ := ih (i + 1) (by omega) k (Go.bits .xor .i64 (wrap64 (x * 256)) y) (a + 1) s1 (by omega) (by omega)
  have ei : ((i + 1 : Nat) : Int) = (i : Int) + 1 := by omega
  rw [ei] at e2
  exact ⟨r, a', s', e2, by omega, by omega, b3⟩
theorem number_ex {l : List Int} (hl : Bytes l) (hn : (l.length : Int) ≤ 2000000) (most : Int) (hm : 1 ≤ most ∧ most ≤ 1000000000000) (a s : Int) (h0 : 0 ≤ a) (h1 : a ≤ 700000000) :
  ∃ r a' s', spec_l05Number.f 8 l a s most = some (r, a', s') ∧ a ≤ a' ∧ a' ≤ a + 13 ∧ -most ≤ r ∧ r ≤ most := by
 obtain ⟨r, a', s', e, b1, b2, b3⟩ := number_loop hl hn most hm 7 0 rfl 0 0 a s h0 (by omega)
 exact ⟨r, a', s', e, b1, by omega, b3⟩
theorem wrap_in (x : Int) (h : -1800000000 ≤ x ∧ x ≤ 1800000000) : ∃ y, spec_l11Wrap.f x = some y ∧ -1799999999 ≤ y ∧ y ≤ 1800000000 := by
 have ht : Int.tmod x 3600000000 = x := by
  by_cases c : 0 ≤ x
  ·exact Int.tmod_eq_of_lt c (by omega)
  ·have e : Int.tmod x 3600000000 = -(Int.tmod (-x) 3600000000) := by rw [Int.neg_tmod, Int.neg_neg]
   rw [e, Int.tmod_eq_of_lt (by omega) (by omega)]; omega
 simp only [spec_l11Wrap.f, ht]
 rw [if_neg (by omega)]
 by_cases c : x ≤ -1800000000
 ·rw [if_pos c, wrap_small (by omega) (by omega)]; exact ⟨_, rfl, by omega, by omega⟩
 ·rw [if_neg c]; exact ⟨_, rfl, by omega, by omega⟩
def VE (r1 r2 r3 : Int) : Prop := 1000 ≤ r1 ∧ r1 ≤ 100000000000 ∧ 1 ≤ r3 ∧ r3 ≤ 1000000000000 ∧ 0 ≤ r2 ∧ r2 * 100 ≤ r3
theorem el_ex {l : List Int} (hl : Bytes l) (hn : (l.length : Int) ≤ 2000000) (a s : Int) (h0 : 0 ≤ a) (h1 : a ≤ 700000000) : ∃ r1 r2 r3 a' s', spec_l12Draw.f l a s = some (r1, r2, r3, a', s') ∧ a ≤ a' ∧ a' ≤ a + 15 ∧ VE r1 r2 r3 := by
 simp only [spec_l12Draw.f]
 obtain ⟨p, a1, s1, e1, p0, p1, b1, b2⟩ := pick_ex hl hn a s 5 h0 (by omega)
 rw [e1, Option.bind_some]
 simp only
 by_cases c0 : p = 0
 ·rw [if_pos c0]
  exact ⟨_, _, _, _, _, rfl, by (try dsimp only); omega, by (try dsimp only); omega, by unfold VE; (try dsimp only); omega⟩
 rw [if_neg c0]
 by_cases c1 : p = 1
 ·rw [if_pos c1]
  obtain ⟨q, a2, s2, e2, d1, d2, hq⟩ := among_ex hl hn a1 s1 [6371000000, 1000, 1000000, 100000000000] (by simp) (by omega) (by omega)
  rw [e2, Option.bind_some]
  simp only [List.mem_cons, List.not_mem_nil, or_false] at hq
  exact ⟨_, _, _, _, _, rfl, by (try dsimp only); omega, by (try dsimp only); omega, by unfold VE; (try dsimp only); omega⟩
 rw [if_neg c1]
 by_cases c2 : p = 2
 ·rw [if_pos c2]
  exact ⟨_, _, _, _, _, rfl, by (try dsimp only); omega, by (try dsimp only); omega, by unfold VE; (try dsimp only); omega⟩
 rw [if_neg c2]
 obtain ⟨q, a2, s2, e2, q0, q1, d1, d2⟩ := pick_ex hl hn a1 s1 9000000 (by omega) (by omega)
 rw [e2, Option.bind_some]
 simp only
 obtain ⟨o, a3, s3, e3, f1, f2, ho⟩ := among_ex hl hn a2 s2 [100, 150, 200, 300, 1000, 100000] (by simp) (by omega) (by omega)
 rw [e3, Option.bind_some]
 have hh := q1 (by omega)
 simp only [List.mem_cons, List.not_mem_nil, or_false] at ho
 rw [wrap_small (x := 1 + q) (by omega) (by omega), wrap_small (x := 1000 * (1 + q)) (by omega) (by omega)]
 exact ⟨_, _, _, _, _, rfl, by (try dsimp only); omega, by (try dsimp only); omega, by unfold VE; (try dsimp only); omega⟩
theorem pt_ex {l : List Int} (hl : Bytes l) (hn : (l.length : Int) ≤ 2000000) (a s : Int) (h0 : 0 ≤ a) (h1 : a ≤ 700000000 - 50) : ∃ r1 r2 a' s', spec_l11Draw.f 8 l a s = some (r1, r2, a', s') ∧ a ≤ a' ∧ a' ≤ a + 40 ∧ (-900000000 ≤ r1 ∧ r1 ≤ 900000000) ∧ -1799999999 ≤ r2 ∧ r2 ≤ 1800000000 := by
 simp only [spec_l11Draw.f]
 obtain ⟨x, a1, s1, e1, b1, b2, b3, b4⟩ := number_ex hl hn 900000000 (by omega) a s h0 (by omega)
 rw [e1, Option.bind_some]
 obtain ⟨y, a2, s2, e2, d1, d2, d3, d4⟩ := number_ex hl hn 1800000000 (by omega) a1 s1 (by omega) (by omega)
 simp only
 rw [e2, Option.bind_some]
 obtain ⟨z, e3, z1, z2⟩ := wrap_in y ⟨d3, d4⟩
 simp only
 rw [e3, Option.bind_some]
 obtain ⟨p, a3, s3, e4, p0, p1, f1, f2⟩ := pick_ex hl hn a2 s2 10 (by omega) (by omega)
 rw [e4, Option.bind_some]
 simp only
 by_cases c0 : p = 0
 ·rw [if_pos c0]
  obtain ⟨q, a4, s4, e5, g1, g2, hq⟩ := among_ex hl hn a3 s3 [900000000, (-900000000), 0, 1] (by simp) (by omega) (by omega)
  rw [e5, Option.bind_some]
  simp only [List.mem_cons, List.not_mem_nil, or_false] at hq
  exact ⟨_, _, _, _, rfl, by (try dsimp only); omega, by (try dsimp only); omega, ⟨by omega, by omega⟩, by omega, by omega⟩
 rw [if_neg c0]
 by_cases c1 : p = 1
 ·rw [if_pos c1]
  obtain ⟨q, a4, s4, e5, g1, g2, hq⟩ := among_ex hl hn a3 s3 [1800000000, (-1799999999), 0, 900000000, (-900000000)] (by simp) (by omega) (by omega)
  rw [e5, Option.bind_some]
  simp only [List.mem_cons, List.not_mem_nil, or_false] at hq
  exact ⟨_, _, _, _, rfl, by (try dsimp only); omega, by (try dsimp only); omega, ⟨by omega, by omega⟩, by omega, by omega⟩
 rw [if_neg c1]
 exact ⟨_, _, _, _, rfl, by (try dsimp only); omega, by (try dsimp only); omega, ⟨by omega, by omega⟩, by omega, by omega⟩
def ints (rows : List Value) : List Int := rows.map cI
def okS (rows : List Value) (a : Int) : Bool := rows.all (fun x => decide (0 ≤ cI x) && decide (cI x ≤ 255)) && decide ((rows.length : Int) ≤ 2000000 ∧ 0 ≤ a ∧ a ≤ 600000000)
theorem okS_iff {rows : List Value} {a : Int} : okS rows a = true ↔ Bytes (ints rows) ∧ (rows.length : Int) ≤ 2000000 ∧ 0 ≤ a ∧ a ≤ 600000000 := by
 simp only [okS, Bool.and_eq_true, List.all_eq_true, decide_eq_true_eq, Bytes, ints, List.mem_map]
 constructor
 ·rintro ⟨h1, h2⟩
  refine ⟨?_, h2⟩
  rintro _ ⟨y, hy, rfl⟩
  exact h1 y hy
 ·rintro ⟨h1, h2⟩
  exact ⟨fun x hx => h1 _ ⟨x, hx, rfl⟩, h2⟩
theorem ints_len (rows : List Value) : (ints rows).length = rows.length := by simp [ints]
theorem okS_mono {rows : List Value} {a b : Int} (h : okS rows a = true) (h0 : 0 ≤ b) (h1 : b ≤ 600000000) : okS rows b = true := by
 rw [okS_iff] at *
 exact ⟨h.1, h.2.1, h0, h1⟩
def elF (rows : List Value) (a s : Int) : El × Int × Int := match spec_l12Draw.f (ints rows) a s with
 | some (x, y, z, a', s') => (⟨x, y, z⟩, a', s')
 | none => (⟨0, 0, 0⟩, a, s)
def ptF (rows : List Value) (a s : Int) : Pt × Int × Int := match spec_l11Draw.f 8 (ints rows) a s with
 | some (x, y, a', s') => (⟨x, y⟩, a', s')
 | none => (⟨0, 0⟩, a, s)
theorem elF_at {rows : List Value} {a s : Int} (h : okS rows a = true) : a ≤ (elF rows a s).2.1 ∧ (elF rows a s).2.1 ≤ a + 15 := by
 obtain ⟨h1, h2, h3, h4⟩ := okS_iff.1 h
 obtain ⟨r1, r2, r3, a', s', e, b1, b2, hv⟩ := el_ex h1 (by rw [ints_len]; exact h2) a s h3 (by omega)
 simp only [elF, e]
 exact ⟨b1, b2⟩
theorem ptF_at {rows : List Value} {a s : Int} (h : okS rows a = true) : a ≤ (ptF rows a s).2.1 ∧ (ptF rows a s).2.1 ≤ a + 40 := by
 obtain ⟨h1, h2, h3, h4⟩ := okS_iff.1 h
 obtain ⟨r1, r2, a', s', e, b1, b2, hv⟩ := pt_ex h1 (by rw [ints_len]; exact h2) a s h3 (by omega)
 simp only [ptF, e]
 exact ⟨b1, b2⟩
theorem reads {W : World} {p : Pl} {rows : List Value} {e : TypeId} (h : Lst p (.int .u8 0) rows false e W) (hn : (rows.length : Int) ≤ 2000000) : Kd.C (Kd.int .u8) W p.ha (ints rows).length (ints rows) := by
 refine ⟨rfl, by rw [ints_len]; omega, fun h0 => ?_⟩
 rw [ints_len] at h0
 have hsz : p.sz = 1 := by rw [← h.szz]; rfl
 rcases h.lay with ⟨_, h2, _⟩ | ⟨k, o, c, t', fz, h1, h2, h3, h4⟩
 ·subst h2; simp at h0
 ·refine ⟨⟨k, o, none⟩, h1, fun j x hj => ⟨[.int .u8 x], rfl, rfl, fun i u hu => ?_⟩⟩
  have hrow : ∀ r ∈ rows, r = .int .u8 (cI r) := fun r hr => (h.row r hr).1
  have hf : flat rows = rows := by
   clear hj h4 h0 hn h
   induction rows with
   | nil => rfl
   | cons r l ih =>
    have := hrow r (by simp)
    rw [show flat (r :: l) = r.cells.toList ++ flat l from rfl, ih fun x hx => hrow x (by simp [hx])]
    rw [this]
    rfl
  rw [hf, hsz, Nat.mul_one] at h4
  have hi : i = 0 := by
   have := (List.getElem?_eq_some_iff.1 hu).1
   simp at this
   exact this
  subst hi
  simp only [List.getElem?_cons_zero, Option.some.injEq] at hu
  subst hu
  simp only [ints, List.getElem?_map, Option.map_eq_some_iff] at hj
  obtain ⟨r, hr, rfl⟩ := hj
  have hjl := (List.getElem?_eq_some_iff.1 hr).1
  have e1 : (c.toList.drop o)[j]? = some r := by
   have e2 : ((c.toList.drop o).take rows.length)[j]? = some r := by rw [h4]; exact hr
   rwa [List.getElem?_take_of_lt hjl] at e2
  rw [List.getElem?_drop] at e1
  have hr2 := hrow r (List.mem_of_getElem? hr)
  have ea : (⟨k, o, none⟩ : Addr).add (j * (Kd.int .u8).sz + 0) = ⟨k, o + j, none⟩ := by simp [Addr.add, Kd.int, Kd.scalar]
  rw [ea]
  unfold World.cell?
  rw [h3]
  simp only []
  rw [← Array.getElem?_toList, e1, ← hr2]
  rfl
theorem isS_of {W w : World} {gk : Nat} {p : Pl} {rows : List Value} {e : TypeId} {a s : Int} (hb : w.heap[gk]? = some (.cells #[.slice p.ha p.hl p.hc, .int .i64 a, .int .u64 s] 106 (0, 0))) (hg : W.heap.size ≤ gk)
  (hL : Lst p (.int .u8 0) rows false e W) (hn : (rows.length : Int) ≤ 2000000) : IsS106 (p.ha, p.hc) W w gk (ints rows) a s := by
 refine ⟨p.ha, p.hc, ?_, hg, reads hL hn, rfl⟩
 rw [ints_len, ← hL.len]
 exact hb
theorem isS_to {W w : World} {gk : Nat} {p : Pl} {rows : List Value} {e : TypeId} {a s : Int} (hL : Lst p (.int .u8 0) rows false e W) (h : IsS106 (p.ha, p.hc) W w gk (ints rows) a s) :
  w.heap[gk]? = some (.cells #[.slice p.ha p.hl p.hc, .int .i64 a, .int .u64 s] 106 (0, 0)) := by
 obtain ⟨A0, c0, hb, _, _, e⟩ := h
 cases e
 rw [ints_len, ← hL.len] at hb
 exact hb
theorem from_makes (e : TypeId) (rows : List Value) (h : okS rows 0 = true) : SrcMakes Tryz.prog 54 106 (.int .u8 0) e rows := by
 intro w p hL
 obtain ⟨h1, h2, h3, h4⟩ := okS_iff.1 h
 have hl := hL.len
 have hlc := hL.lc
 have key := spec_l00From.calls p.ha p.hc (ints rows) (ints rows) 0 0 w w (Below.refl _ _) (reads hL h2) (by rw [ints_len]; omega) rfl
 rw [ints_len, ← hl] at key
 refine key.mono ?_
 rintro en w' ⟨gk, rfl, k1, k2, _⟩
 have hb := isS_to hL k1
 exact ⟨gk, rfl, k1.ge, hb, k2⟩
theorem el_does (W : World) (e : TypeId) (rows : List Value) (a s : Int) (h : okS rows a = true) : SrcDoes Tryz.prog 53 106 W (.int .u8 0) e rows [] a s (cEl.enc (elF rows a s).1) (elF rows a s).2.1 (elF rows a s).2.2 := by
 intro w gk p hb hg hL hlow hB
 obtain ⟨h1, h2, h3, h4⟩ := okS_iff.1 h
 obtain ⟨r1, r2, r3, a', s', e1, _, _, hv⟩ := el_ex h1 (by rw [ints_len]; exact h2) a s h3 (by omega)
 refine (spec_l12Draw.calls (p.ha, p.hc) gk (ints rows) a s r1 r2 r3 a' s' W w (isS_of hb hg hL h2) hB e1).mono ?_
 rintro en w' ⟨rfl, k1, k2, k3⟩
 simp only [elF, e1]
 exact ⟨rfl, isS_to hL k1, k2, k3.1, fun k hk hne => k3.2 k hk hne (by simp)⟩
theorem pt_does (W : World) (e : TypeId) (rows : List Value) (a s : Int) (h : okS rows a = true) : SrcDoes Tryz.prog 55 106 W (.int .u8 0) e rows [] a s (cPt.enc (ptF rows a s).1) (ptF rows a s).2.1 (ptF rows a s).2.2 := by
 intro w gk p hb hg hL hlow hB
 obtain ⟨h1, h2, h3, h4⟩ := okS_iff.1 h
 obtain ⟨r1, r2, a', s', e1, _, _, hv⟩ := pt_ex h1 (by rw [ints_len]; exact h2) a s h3 (by omega)
 refine (spec_l11Draw.calls 8 (p.ha, p.hc) gk (ints rows) a s r1 r2 a' s' W w (isS_of hb hg hL h2) hB e1).mono ?_
 rintro en w' ⟨rfl, k1, k2, k3⟩
 simp only [ptF, e1]
 exact ⟨rfl, isS_to hL k1, k2, k3.1, fun k hk hne => k3.2 k hk hne (by simp)⟩
theorem elF_ok {rows : List Value} {a s : Int} (h : okS rows a = true) : VE (elF rows a s).1.a (elF rows a s).1.num (elF rows a s).1.den := by
 obtain ⟨h1, h2, h3, h4⟩ := okS_iff.1 h
 obtain ⟨r1, r2, r3, a', s', e, _, _, hv⟩ := el_ex h1 (by rw [ints_len]; exact h2) a s h3 (by omega)
 unfold elF
 rw [e]
 exact hv
theorem ptF_ok {rows : List Value} {a s : Int} (h : okS rows a = true) : (-900000000 ≤ (ptF rows a s).1.lat ∧ (ptF rows a s).1.lat ≤ 900000000) ∧ -1799999999 ≤ (ptF rows a s).1.lon ∧ (ptF rows a s).1.lon ≤ 1800000000 := by
 obtain ⟨h1, h2, h3, h4⟩ := okS_iff.1 h
 obtain ⟨r1, r2, a', s', e, _, _, hv⟩ := pt_ex h1 (by rw [ints_len]; exact h2) a s h3 (by omega)
 unfold ptF
 rw [e]
 exact hv
end Go.Proofs.YtogpbandlpjccaaGreatDoor.TX
/- Draws of an ellipsoid and of points. -/
set_option linter.unusedVariables false
set_option maxRecDepth 100000
namespace Go.Proofs.YtogpbandlpjccaaGreatDoor.TX
open Go.RowKit Go.RX
theorem hmix0 : Tryz.prog.follows .mixedOrders = true := by kernel_rfl
def elE : Entry Tryz.prog := entryS1 cEl 53 106 (.int .u8 0) 5 elF (fun rows a _ => okS rows a) (enters_of Tryz.func53 (by kernel_rfl) (by kernel_rfl)) (fun W rows a s h => el_does W 5 rows a s h)
def ptE : Entry Tryz.prog := entryS1 cPt 55 106 (.int .u8 0) 5 ptF (fun rows a _ => okS rows a) (enters_of Tryz.func55 (by kernel_rfl) (by kernel_rfl)) (fun W rows a s h => pt_does W 5 rows a s h)
def fromE : Entry Tryz.prog := entrySN 54 106 (.int .u8 0) 5 (fun rows => okS rows 0) (enters_of Tryz.func54 (by kernel_rfl) (by kernel_rfl)) (fun rows h => from_makes 5 rows h)
def spec_A2Ellipsoid (code : List Value) : El := (elF code (0 : Int) (0 : Int)).1
def spec_A2Ellipsoid.t {ρ : Type} (code : List Value) (K : El → Option ρ) : Option ρ := (bif okS code 0 then (bif okS code (0 : Int) then K ((elF code (0 : Int) (0 : Int)).1) else none) else none)
theorem spec_A2Ellipsoid.t_eq {ρ : Type} (code : List Value) (hpre : okS code 0 = true) (K : El → Option ρ) : spec_A2Ellipsoid.t code K = K (spec_A2Ellipsoid code) := by
 have b0 := elF_at (s := 0) hpre
 unfold spec_A2Ellipsoid.t spec_A2Ellipsoid
 rw [hpre, cond_true]
 rw [cond_true]
set_option maxHeartbeats 1000000 in
theorem spec_A2Ellipsoid.gives (code : List Value) (hpre : okS code 0 = true) : GivesA Tryz.prog 7 [(aL (.int .u8 0) 5).enc code] (cEl.enc (spec_A2Ellipsoid code)) :=
 givesA_L hmix0 [fromE, elE, ptE] 6 none noL Tryz.func7 rfl (fun _ _ => noL_ok) ((by kernel_rfl : run1 Tryz.prog (tab [fromE, elE, ptE]) 6 none noL Tryz.f7 (argVals 0 [(aL (.int .u8 0) 5).enc code]) (argBlocks [(aL (.int .u8 0) 5).enc code]) = spec_A2Ellipsoid.t code fun r => some (cEl.enc r, argBlocks [(aL (.int .u8 0) 5).enc code])).trans (spec_A2Ellipsoid.t_eq code hpre _))
def spec_A2Ellipsoid.e : Entry Tryz.prog := entryA1 (aL (.int .u8 0) 5) cEl 7 spec_A2Ellipsoid (fun code => okS code 0) (fun code h => spec_A2Ellipsoid.gives code h)
def spec_A2Points (code : List Value) : Pt × Pt × Pt := ((ptF code (0 : Int) (0 : Int)).1, (ptF code (ptF code (0 : Int) (0 : Int)).2.1 (ptF code (0 : Int) (0 : Int)).2.2).1, (ptF code (ptF code (ptF code (0 : Int) (0 : Int)).2.1 (ptF code (0 : Int) (0 : Int)).2.2).2.1 (ptF code (ptF code (0 : Int) (0 : Int)).2.1 (ptF code (0 : Int) (0 : Int)).2.2).2.2).1)
theorem givesA_of {P : Program} {g : FuncId} {z : Value} {e : TypeId} {rows : List Value} {v : Value} (hen : ∀ xs w, (callFunc g xs).run P w = .ok (.enter g xs) w) (hv : plain v = true)
  (h : ∀ (w : World) (p : Pl), Lst p z rows false e w → Calls P g #[.slice p.ha p.hl p.hc] w fun en w' => en = .returned v ∧ Below w.heap.size w w') : GivesA P g [(aL z e).enc rows] v := by
 refine ⟨hen, fun β w _ hl hw _ => ?_⟩
 have hL : Lst (β 0) z (inOrder rows false) false e w := hl.lst 0 rows false z e rfl
 refine (h w (β 0) hL).mono ?_
 rintro en w' ⟨rfl, hb⟩
 exact ⟨β, by rw [rl_plain hv], plain_inn hv, (Hp.start hl hw).past hb⟩
theorem spec_A2Points.gives (code : List Value) (hpre : okS code 0 = true) : GivesA Tryz.prog 8 [(aL (.int .u8 0) 5).enc code] ((cT3 cPt cPt cPt).enc (spec_A2Points code)) := by
 refine givesA_of (enters_of Tryz.func8 (by kernel_rfl) (by kernel_rfl)) ((cT3 cPt cPt cPt).plain _) fun w p hL => ?_
 obtain ⟨h1, h2, h3, h4⟩ := okS_iff.1 hpre
 have h2' : ((ints code).length : Int) ≤ 2000000 := by rw [ints_len]; exact h2
 have hl := hL.len
 have hlc := hL.lc
 obtain ⟨x1, y1, a1, s1, e1, b1, c1, _⟩ := pt_ex h1 h2' 0 0 (by omega) (by omega)
 obtain ⟨x2, y2, a2, s2, e2, b2, c2, _⟩ := pt_ex h1 h2' a1 s1 (by omega) (by omega)
 obtain ⟨x3, y3, a3, s3, e3, b3, c3, _⟩ := pt_ex h1 h2' a2 s2 (by omega) (by omega)
 have key := spec_A2Points.calls 8 p.ha p.hc (ints code) x1 y1 x2 y2 x3 y3 w (reads hL h2) (by rw [ints_len]; omega) (by simp only [spec_A2Points.f, spec_l00From.f, Option.bind_some, e1, e2, e3])
 rw [ints_len, ← hl] at key
 have er : spec_A2Points code = (⟨x1, y1⟩, ⟨x2, y2⟩, ⟨x3, y3⟩) := by
  have q1 : ptF code 0 0 = (⟨x1, y1⟩, a1, s1) := by simp only [ptF, e1]
  have q2 : ptF code a1 s1 = (⟨x2, y2⟩, a2, s2) := by simp only [ptF, e2]
  have q3 : ptF code a2 s2 = (⟨x3, y3⟩, a3, s3) := by simp only [ptF, e3]
  simp only [spec_A2Points, q1, q2, q3]
 rw [er]
 exact key
def spec_A2Points.e : Entry Tryz.prog := entryA1 (aL (.int .u8 0) 5) (cT3 cPt cPt cPt) 8 spec_A2Points (fun code => okS code 0) (fun code h => spec_A2Points.gives code h)
end Go.Proofs.YtogpbandlpjccaaGreatDoor.TX
/- Rows of bytes that are not too long. -/
set_option linter.unusedVariables false
namespace Go.Proofs.YtogpbandlpjccaaGreatDoor.TX
open Go.RX
def bytesOk (rows : List Value) : Bool := rows.all (fun x => decide (0 ≤ cI x) && decide (cI x ≤ 255))
theorem okS_of {rows : List Value} (h : bytesOk rows = true) (h1 : (rows.length : Int) ≤ 1048576) : okS rows 0 = true := by
 simp only [okS, Bool.and_eq_true, decide_eq_true_eq]
 exact ⟨h, by omega, by omega, by omega⟩
theorem longA {d i : List Value} (h0 : Go.G880.laws_a2Long d i = false) : (d.length : Int) ≤ 3000 ∧ (i.length : Int) ≤ 3000 := by
 unfold Go.G880.laws_a2Long at h0
 cases h : decide ((d.length : Int) > 3000)
 ·rw [h, cond_false] at h0
  have h := of_decide_eq_false h
  have h0 := of_decide_eq_false h0
  omega
 ·rw [h, cond_true] at h0; cases h0
theorem pd_okA1 {d i : List Value} (hpre : (bytesOk d && bytesOk i) = true) (h0 : Go.G880.laws_a2Long d i = false) : okS d 0 = true := by
 have := longA h0
 exact okS_of (by simp only [Bool.and_eq_true] at hpre; exact hpre.1) (by omega)
theorem pd_okA2 {d i : List Value} (hpre : (bytesOk d && bytesOk i) = true) (h0 : Go.G880.laws_a2Long d i = false) : okS i 0 = true := by
 have := longA h0
 exact okS_of (by simp only [Bool.and_eq_true] at hpre; exact hpre.2) (by omega)
end Go.Proofs.YtogpbandlpjccaaGreatDoor.TX
