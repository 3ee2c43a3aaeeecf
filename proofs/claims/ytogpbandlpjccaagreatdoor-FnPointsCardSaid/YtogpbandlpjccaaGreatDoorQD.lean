/- The points that are drawn are valid. -/
import Derived.Test.YtogpbandlpjccaaGreatDoorXP3
import Derived.Test.YtogpbandlpjccaaGreatDoorQP
import Derived.Test.YtogpbandlpjccaaGreatDoorHP
import Derived.Laws.BitsAllLaws
set_option linter.unusedVariables false
set_option linter.unusedSimpArgs false
namespace Go.Proofs.YtogpbandlpjccaaGreatDoor.TX
open Go.RowKit Go.Proofs.YtogpbandlpjccaaGreatDoorW.PrintWords Go.Proofs.YtogpbandlpjccaaGreatDoorW.PrintLast Go.Proofs.YtogpbandlpjccaaGreatDoorW.PrintMore Go.G880.Hp
theorem wrapU (x : Int) : 0 ≤ IntKind.u64.wrap x ∧ IntKind.u64.wrap x < 18446744073709551616 := by
  have e : IntKind.u64.wrap x = x % 18446744073709551616 := rfl
  rw [e]
  omega
theorem and255 (x : Int) (h0 : 0 ≤ x) (h1 : x < 18446744073709551616) : 0 ≤ Go.bits .and .u64 x 255 ∧ Go.bits .and .u64 x 255 ≤ 255 := by
  rw [Go.u64_and x 255 h0 h1 (by omega) (by omega)]
  have := @Nat.and_le_right x.toNat (255 : Int).toNat
  have e : (255 : Int).toNat = 255 := rfl
  rw [e] at this ⊢
  omega
def Bytes (l : List Int) : Prop := ∀ x ∈ l, 0 ≤ x ∧ x ≤ 255
theorem rd_byte {l : List Int} (h : Bytes l) (i : Int) : 0 ≤ rd l i ∧ rd l i ≤ 255 := by
  unfold rd
  by_cases hi : i.toNat < l.length
  · have e : l.getD i.toNat 0 = l[i.toNat] := by simp [List.getD, hi]
    rw [e]
    exact h _ (List.getElem_mem hi)
  · have e : l.getD i.toNat 0 = 0 := by simp [List.getD, Nat.le_of_not_lt hi]
    rw [e]
    omega
theorem next_ex {l : List Int} (hl : Bytes l) (hn : (l.length : Int) ≤ 2000000) (a s : Int) (h0 : 0 ≤ a) (h1 : a ≤ 1000000000) : ∃ x s', spec_l00Src_next.f l a s = some (x, a + 1, s') ∧ 0 ≤ x ∧ x ≤ 255 := by
  have ew : wrap64 (a + 1) = a + 1 := wrap_small (by omega) (by omega)
  have hr := rd_byte hl a
  have er : wrap64 (rd l a) = rd l a := wrap_small (by omega) (by omega)
  have q : ∀ y : Int, 0 ≤ IntKind.u64.wrap y / 1099511627776 ∧ IntKind.u64.wrap y / 1099511627776 < 18446744073709551616 := by
    intro y
    have := wrapU y
    omega
  have qq : ∀ y : Int, 0 ≤ wrap64 (Go.bits .and .u64 (IntKind.u64.wrap y / 1099511627776) 255) ∧ wrap64 (Go.bits .and .u64 (IntKind.u64.wrap y / 1099511627776) 255) ≤ 255 := by
    intro y
    have b := and255 _ (q y).1 (q y).2
    rw [wrap_small (by omega) (by omega)]
    exact b
  simp only [spec_l00Src_next.f, ew, er]
  by_cases c1 : a < (l.length : Int)
  · rw [if_pos c1, if_pos h0, if_pos (by omega)]
    exact ⟨_, _, rfl, hr.1, hr.2⟩
  · rw [if_neg c1, if_neg (by omega)]
    exact ⟨_, _, rfl, (qq _).1, (qq _).2⟩
theorem tmod_rng {x n : Int} (h0 : 0 ≤ x) (hn : 0 < n) : 0 ≤ Int.tmod x n ∧ Int.tmod x n < n := ⟨Int.tmod_nonneg n h0, Int.tmod_lt_of_pos x hn⟩
theorem pick_ex {l : List Int} (hl : Bytes l) (hn : (l.length : Int) ≤ 2000000) (a s n : Int) (h0 : 0 ≤ a) (h1 : a ≤ 900000000) : ∃ x a' s', spec_l00Src_pick.f l a s n = some (x, a', s') ∧ 0 ≤ x ∧ (1 ≤ n → x < n) ∧ a ≤ a' ∧ a' ≤ a + 2 := by
  simp only [spec_l00Src_pick.f]
  by_cases c1 : n ≤ 1
  · rw [if_pos c1]
    exact ⟨0, a, s, rfl, by omega, fun h => by omega, by omega, by omega⟩
  rw [if_neg c1]
  obtain ⟨x, s', e, x0, x1⟩ := next_ex hl hn a s h0 (by omega)
  rw [e, Option.bind_some]
  by_cases c2 : n > 200
  · obtain ⟨y, s2, e2, y0, y1⟩ := next_ex hl hn (a + 1) s' (by omega) (by omega)
    simp only
    rw [if_pos c2, e2, Option.bind_some, if_neg (by omega)]
    simp only
    rw [wrap_small (x := x * 256) (by omega) (by omega), wrap_small (by omega) (by omega)]
    have t := tmod_rng (x := x * 256 + y) (n := n) (by omega) (by omega)
    exact ⟨_, _, _, rfl, t.1, fun _ => t.2, by (try dsimp only); omega, by (try dsimp only); omega⟩
  · rw [if_neg c2, if_neg (by omega)]
    have t := tmod_rng (x := x) (n := n) x0 (by omega)
    exact ⟨_, _, _, rfl, t.1, fun _ => t.2, by (try dsimp only); omega, by (try dsimp only); omega⟩
theorem among_in {l : List Int} (hl : Bytes l) (hn : (l.length : Int) ≤ 2000000) (a s : Int) (m : List Int) (hm : 1 ≤ (m.length : Int)) (h0 : 0 ≤ a) (h1 : a ≤ 900000000) : ∃ x a' s', spec_l00Src_among.f l a s m = some (x, a', s') ∧ a ≤ a' ∧ a' ≤ a + 2 ∧ x ∈ m := by
  simp only [spec_l00Src_among.f]
  obtain ⟨x, a', s', e, x0, x1, a1, a2⟩ := pick_ex hl hn a s (m.length : Int) h0 h1
  have := x1 hm
  rw [e, Option.bind_some, if_pos x0, if_pos (by omega)]
  refine ⟨_, _, _, rfl, a1, a2, ?_⟩
  have hi : x.toNat < m.length := by omega
  have e2 : rd m x = m[x.toNat] := by unfold rd; simp [List.getD, hi]
  rw [e2]
  exact List.getElem_mem hi
theorem one_ex {l : List Int} (hl : Bytes l) (hn : (l.length : Int) ≤ 2000000) (a s n : Int) (h0 : 0 ≤ a) (h1 : a ≤ 900000000) : ∃ b a' s', spec_l00Src_one.f l a s n = some (b, a', s') ∧ a ≤ a' ∧ a' ≤ a + 2 := by
  simp only [spec_l00Src_one.f]
  obtain ⟨x, a', s', e, x0, x1, a1, a2⟩ := pick_ex hl hn a s n h0 h1
  rw [e, Option.bind_some]
  exact ⟨_, _, _, rfl, a1, a2⟩
theorem tmod_in (x n : Int) (hn : 0 < n) : -n < Int.tmod x n ∧ Int.tmod x n < n := by
  by_cases h : 0 ≤ x
  · have := tmod_rng h hn; omega
  · have := tmod_rng (x := -x) (by omega) hn
    have e : Int.tmod x n = -(Int.tmod (-x) n) := by rw [Int.neg_tmod, Int.neg_neg]
    omega
theorem shr_in {x m : Int} (q : Int) (h : -m ≤ x ∧ x ≤ m) : -m ≤ shr .i64 x q ∧ shr .i64 x q ≤ m := by
  unfold shr
  have hp : (0 : Int) < 2 ^ min q.toNat IntKind.i64.bits := Int.pow_pos (by omega)
  generalize (2 : Int) ^ min q.toNat IntKind.i64.bits = p at *
  by_cases hx : 0 ≤ x
  · have h1 := Int.ediv_nonneg hx (Int.le_of_lt hp)
    have h2 := Int.ediv_le_self p hx
    omega
  · have h1 : x / p ≤ 0 := Int.ediv_nonpos_of_nonpos_of_neg (by omega) (by omega)
    have h2 : x ≤ x / p := by
      refine (Int.le_ediv_iff_mul_le hp).2 ?_
      have := Int.mul_le_mul_of_nonpos_left (a := x) (b := p) (c := 1) (by omega) (by omega)
      omega
    omega
theorem number_end {l : List Int} (hl : Bytes l) (hn : (l.length : Int) ≤ 2000000) (most : Int) (hm : 1 ≤ most ∧ most ≤ 1000000000000) (k : Nat) (x a s : Int) (h0 : 0 ≤ a) (h1 : a ≤ 800000000) :
    ∃ r a' s', spec_l05Number.l0 (k + 1) most x 7 l a s = some (r, a', s') ∧ a ≤ a' ∧ a' ≤ a + 6 ∧ -most ≤ r ∧ r ≤ most := by
  have ht := tmod_in x (most + 1) (by omega)
  simp only [spec_l05Number.l0]
  have em : wrap64 (most + 1) = most + 1 := wrap_small (by omega) (by omega)
  rw [if_neg (by omega), em, if_neg (by omega)]
  obtain ⟨p, a1, s1, e1, p0, p1, b1, b2⟩ := pick_ex hl hn a s 5 h0 (by omega)
  rw [e1, Option.bind_some]
  by_cases c0 : p = 0
  · rw [if_pos c0]
    obtain ⟨q, a2, s2, e2, q0, q1, d1, d2⟩ := pick_ex hl hn a1 s1 40 (by omega) (by omega)
    simp only
    rw [e2, Option.bind_some, if_pos (wrapU _).1]
    obtain ⟨o, a3, s3, e3, f1, f2⟩ := one_ex hl hn a2 s2 2 (by omega) (by omega)
    simp only
    rw [e3, Option.bind_some]
    cases o
    · have hb := shr_in (IntKind.u64.wrap q) (x := Int.tmod x (most + 1)) (m := most) (by omega)
      exact ⟨_, _, _, rfl, by (try dsimp only); omega, by (try dsimp only); omega, hb.1, hb.2⟩
    · have hb := shr_in (IntKind.u64.wrap q) (x := Int.tmod x (most + 1)) (m := most) (by omega)
      rw [wrap_small (by omega) (by omega)]
      exact ⟨_, _, _, rfl, by (try dsimp only); omega, by (try dsimp only); omega, by omega, by omega⟩
  · rw [if_neg c0]
    by_cases c1 : p = 1
    · rw [if_pos c1]
      obtain ⟨q, a2, s2, e2, d1, d2, hq⟩ := among_in hl hn a1 s1 [0, 1, most, wrap64 (Int.tdiv most 2)] (by simp) (by omega) (by omega)
      have hqm : -most ≤ q ∧ q ≤ most := by
        have hd : 0 ≤ Int.tdiv most 2 ∧ Int.tdiv most 2 ≤ most := by rw [Int.tdiv_eq_ediv_of_nonneg (show 0 ≤ most by omega)]; omega
        rw [wrap_small (x := Int.tdiv most 2) (by omega) (by omega)] at hq
        simp only [List.mem_cons, List.not_mem_nil, or_false] at hq
        omega
      simp only
      rw [e2, Option.bind_some]
      obtain ⟨o, a3, s3, e3, f1, f2⟩ := one_ex hl hn a2 s2 2 (by omega) (by omega)
      simp only
      rw [e3, Option.bind_some]
      cases o
      · have hb := hqm
        exact ⟨_, _, _, rfl, by (try dsimp only); omega, by (try dsimp only); omega, hb.1, hb.2⟩
      · have hb := hqm
        rw [wrap_small (by omega) (by omega)]
        exact ⟨_, _, _, rfl, by (try dsimp only); omega, by (try dsimp only); omega, by omega, by omega⟩
    · rw [if_neg c1]
      obtain ⟨o, a3, s3, e3, f1, f2⟩ := one_ex hl hn a1 s1 2 (by omega) (by omega)
      simp only
      rw [e3, Option.bind_some]
      cases o
      · have hb := (show -most ≤ Int.tmod x (most + 1) ∧ Int.tmod x (most + 1) ≤ most by omega)
        exact ⟨_, _, _, rfl, by (try dsimp only); omega, by (try dsimp only); omega, hb.1, hb.2⟩
      · have hb := (show -most ≤ Int.tmod x (most + 1) ∧ Int.tmod x (most + 1) ≤ most by omega)
        rw [wrap_small (by omega) (by omega)]
        exact ⟨_, _, _, rfl, by (try dsimp only); omega, by (try dsimp only); omega, by omega, by omega⟩
theorem number_loop {l : List Int} (hl : Bytes l) (hn : (l.length : Int) ≤ 2000000) (most : Int) (hm : 1 ≤ most ∧ most ≤ 1000000000000) : ∀ (d i : Nat), d + i = 7 → ∀ (k : Nat) (x a s : Int), 0 ≤ a → a ≤ 700000000 + (i : Int) →
    ∃ r a' s', spec_l05Number.l0 (k + 1 + d) most x (i : Int) l a s = some (r, a', s') ∧ a ≤ a' ∧ a' ≤ a + (d : Int) + 6 ∧ -most ≤ r ∧ r ≤ most := by
  intro d
  induction d with
  | zero =>
    intro i hi k x a s h0 h1
    obtain ⟨r, a', s', e, b1, b2, b3⟩ := number_end hl hn most hm k x a s h0 (by omega)
    have : (i : Int) = 7 := by omega
    rw [this]
    exact ⟨r, a', s', e, b1, by omega, b3⟩
  | succ d ih =>
    intro i hi k x a s h0 h1
    obtain ⟨y, s1, e, y0, y1⟩ := next_ex hl hn a s h0 (by omega)
    rw [show k + 1 + (d + 1) = (k + 1 + d) + 1 by omega]
    simp only [spec_l05Number.l0]
    rw [if_pos (by omega), e, Option.bind_some, wrap_small (x := (i : Int) + 1) (by omega) (by omega)]
    obtain ⟨r, a', s', e2, b1, b2, b3⟩ := ih (i + 1) (by omega) k (Go.bits .xor .i64 (wrap64 (x * 256)) y) (a + 1) s1 (by omega) (by omega)
    have ei : ((i + 1 : Nat) : Int) = (i : Int) + 1 := by omega
    rw [ei] at e2
    exact ⟨r, a', s', e2, by omega, by omega, b3⟩
theorem number_ex {l : List Int} (hl : Bytes l) (hn : (l.length : Int) ≤ 2000000) (most : Int) (hm : 1 ≤ most ∧ most ≤ 1000000000000) (a s : Int) (h0 : 0 ≤ a) (h1 : a ≤ 700000000) :
    ∃ r a' s', spec_l05Number.f 8 l a s most = some (r, a', s') ∧ a ≤ a' ∧ a' ≤ a + 13 ∧ -most ≤ r ∧ r ≤ most := by
  obtain ⟨r, a', s', e, b1, b2, b3⟩ := number_loop hl hn most hm 7 0 rfl 0 0 a s h0 (by omega)
  exact ⟨r, a', s', e, b1, by omega, b3⟩
theorem l11Wrap_f (x : Int) (h : -1800000000 ≤ x ∧ x ≤ 1800000000) : ∃ y, spec_l11Wrap.f x = some y ∧ -1799999999 ≤ y ∧ y ≤ 1800000000 := by
  refine ⟨_, rfl, ?_⟩
  have ht : Int.tmod x 3600000000 = x := by rw [tm]; split <;> omega
  simp only [Go.G880.spec_l11Wrap, ht]
  rw [decide_eq_false (show ¬ x > 1800000000 by omega), cond_false]
  by_cases c : x ≤ -1800000000
  · rw [decide_eq_true c, cond_true, Go.G880.w64_id (by omega) (by omega)]; omega
  · rw [decide_eq_false c, cond_false]; omega
theorem pt_ex {l : List Int} (hl : Bytes l) (hn : (l.length : Int) ≤ 2000000) (a s : Int) (h0 : 0 ≤ a) (h1 : a ≤ 700000000 - 50) : ∃ r1 r2 a' s', spec_l11Draw.f 8 l a s = some (r1, r2, a', s') ∧ OkP ⟨r1, r2⟩ := by
  simp only [spec_l11Draw.f]
  obtain ⟨x, a1, s1, e1, b1, b2, b3, b4⟩ := number_ex hl hn 900000000 (by omega) a s h0 (by omega)
  rw [e1, Option.bind_some]
  obtain ⟨y, a2, s2, e2, d1, d2, d3, d4⟩ := number_ex hl hn 1800000000 (by omega) a1 s1 (by omega) (by omega)
  simp only
  rw [e2, Option.bind_some]
  obtain ⟨z, e3, z1, z2⟩ := l11Wrap_f y ⟨d3, d4⟩
  simp only
  rw [e3, Option.bind_some]
  obtain ⟨p, a3, s3, e4, p0, p1, f1, f2⟩ := pick_ex hl hn a2 s2 10 (by omega) (by omega)
  rw [e4, Option.bind_some]
  simp only
  by_cases c0 : p = 0
  · rw [if_pos c0]
    obtain ⟨q, a4, s4, e5, g1, g2, hq⟩ := among_in hl hn a3 s3 [900000000, (-900000000), 0, 1] (by simp) (by omega) (by omega)
    rw [e5, Option.bind_some]
    simp only [List.mem_cons, List.not_mem_nil, or_false] at hq
    exact ⟨_, _, _, _, rfl, ⟨by simp only; omega, by simp only; omega⟩, by simp only; omega, by simp only; omega⟩
  rw [if_neg c0]
  by_cases c1 : p = 1
  · rw [if_pos c1]
    obtain ⟨q, a4, s4, e5, g1, g2, hq⟩ := among_in hl hn a3 s3 [1800000000, (-1799999999), 0, 900000000, (-900000000)] (by simp) (by omega) (by omega)
    rw [e5, Option.bind_some]
    simp only [List.mem_cons, List.not_mem_nil, or_false] at hq
    exact ⟨_, _, _, _, rfl, ⟨by simp only; omega, by simp only; omega⟩, by simp only; omega, by simp only; omega⟩
  rw [if_neg c1]
  exact ⟨_, _, _, _, rfl, ⟨by simp only; omega, by simp only; omega⟩, by simp only; omega, by simp only; omega⟩
theorem point_ev {l : List Int} (hl : Bytes l) (hn : (l.length : Int) ≤ 2000000) : ∃ a b, Ev (fun k => spec_E8Point.f k l) (a, b) ∧ OkP ⟨a, b⟩ := by
  obtain ⟨r1, r2, a', s', e, h⟩ := pt_ex hl hn 0 0 (by omega) (by omega)
  refine ⟨r1, r2, Ev.of (spec_E8Point.mono l) (k := 8) ?_, h⟩
  simp only [spec_E8Point.f, spec_l00From.f]
  rw [Option.bind_some]
  simp only
  rw [e, Option.bind_some]
end Go.Proofs.YtogpbandlpjccaaGreatDoor.TX
