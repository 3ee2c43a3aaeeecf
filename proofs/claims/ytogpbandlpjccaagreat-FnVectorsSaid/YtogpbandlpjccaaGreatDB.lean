/- The draws as plain functions, and what the machine does with their state. -/
import Derived.Test.YtogpbandlpjccaaGreatDR
import Derived.Test.YtogpbandlpjccaaGreatRxQ
import Derived.Test.YtogpbandlpjccaaGreatRxG
import Derived.Laws.BitsAllLaws
set_option linter.unusedVariables false
set_option linter.unusedSimpArgs false
namespace Go.Proofs.YtogpbandlpjccaaGreat.TX
open Go.RowKit Go.Proofs.YtogpbandlpjccaaGreatW.PrintWords Go.RX

/-! ### The draws come to something -/
theorem wrap_small {x : Int} (h0 : -9223372036854775808 ≤ x) (h1 : x ≤ 9223372036854775807) : wrap64 x = x := by unfold wrap64; omega
theorem wrapU (x : Int) : 0 ≤ IntKind.u64.wrap x ∧ IntKind.u64.wrap x < 18446744073709551616 := by
  have e : IntKind.u64.wrap x = x % 18446744073709551616 := rfl
  rw [e]
  omega
theorem and255 (x : Int) (h0 : 0 ≤ x) (h1 : x < 18446744073709551616) : 0 ≤ Go.bits .and .u64 x 255 ∧ Go.bits .and .u64 x 255 ≤ 255 := by
  rw [Go.u64_and x 255 h0 h1 (by omega) (by omega)]
  have := @Nat.and_le_right x.toNat (255 : Int).toNat
  have e : (255 : Int).toNat = 255 := rfl
  rw [e] at this ⊢
  omega
def Bytes (l : List Int) : Prop := ∀ x ∈ l, 0 ≤ x ∧ x ≤ 255
theorem rd_byte {l : List Int} (h : Bytes l) (i : Int) : 0 ≤ rd l i ∧ rd l i ≤ 255 := by
  unfold rd
  by_cases hi : i.toNat < l.length
  · have e : l.getD i.toNat 0 = l[i.toNat] := by simp [List.getD, hi]
    rw [e]
    exact h _ (List.getElem_mem hi)
  · have e : l.getD i.toNat 0 = 0 := by simp [List.getD, Nat.le_of_not_lt hi]
    rw [e]
    omega
theorem next_ex {l : List Int} (hl : Bytes l) (hn : (l.length : Int) ≤ 2000000) (a s : Int) (h0 : 0 ≤ a) (h1 : a ≤ 1000000000) : ∃ x s', spec_l00Src_next.f l a s = some (x, a + 1, s') ∧ 0 ≤ x ∧ x ≤ 255 := by
  have ew : wrap64 (a + 1) = a + 1 := wrap_small (by omega) (by omega)
  have hr := rd_byte hl a
  have er : wrap64 (rd l a) = rd l a := wrap_small (by omega) (by omega)
  have q : ∀ y : Int, 0 ≤ IntKind.u64.wrap y / 1099511627776 ∧ IntKind.u64.wrap y / 1099511627776 < 18446744073709551616 := by
    intro y
    have := wrapU y
    omega
  have qq : ∀ y : Int, 0 ≤ wrap64 (Go.bits .and .u64 (IntKind.u64.wrap y / 1099511627776) 255) ∧ wrap64 (Go.bits .and .u64 (IntKind.u64.wrap y / 1099511627776) 255) ≤ 255 := by
    intro y
    have b := and255 _ (q y).1 (q y).2
    rw [wrap_small (by omega) (by omega)]
    exact b
  simp only [spec_l00Src_next.f, ew, er]
  by_cases c1 : a < (l.length : Int)
  · rw [if_pos c1, if_pos h0, if_pos (by omega)]
    exact ⟨_, _, rfl, hr.1, hr.2⟩
  · rw [if_neg c1, if_neg (by omega)]
    exact ⟨_, _, rfl, (qq _).1, (qq _).2⟩
theorem tmod_rng {x n : Int} (h0 : 0 ≤ x) (hn : 0 < n) : 0 ≤ Int.tmod x n ∧ Int.tmod x n < n := ⟨Int.tmod_nonneg n h0, Int.tmod_lt_of_pos x hn⟩
theorem pick_ex {l : List Int} (hl : Bytes l) (hn : (l.length : Int) ≤ 2000000) (a s n : Int) (h0 : 0 ≤ a) (h1 : a ≤ 900000000) : ∃ x a' s', spec_l00Src_pick.f l a s n = some (x, a', s') ∧ 0 ≤ x ∧ (1 ≤ n → x < n) ∧ a ≤ a' ∧ a' ≤ a + 2 := by
  simp only [spec_l00Src_pick.f]
  by_cases c1 : n ≤ 1
  · rw [if_pos c1]
    exact ⟨0, a, s, rfl, by omega, fun h => by omega, by omega, by omega⟩
  rw [if_neg c1]
  obtain ⟨x, s', e, x0, x1⟩ := next_ex hl hn a s h0 (by omega)
  rw [e, Option.bind_some]
  by_cases c2 : n > 200
  · obtain ⟨y, s2, e2, y0, y1⟩ := next_ex hl hn (a + 1) s' (by omega) (by omega)
    simp only
    rw [if_pos c2, e2, Option.bind_some, if_neg (by omega)]
    simp only
    rw [wrap_small (x := x * 256) (by omega) (by omega), wrap_small (by omega) (by omega)]
    have t := tmod_rng (x := x * 256 + y) (n := n) (by omega) (by omega)
    exact ⟨_, _, _, rfl, t.1, fun _ => t.2, by (try dsimp only); omega, by (try dsimp only); omega⟩
  · rw [if_neg c2, if_neg (by omega)]
    have t := tmod_rng (x := x) (n := n) x0 (by omega)
    exact ⟨_, _, _, rfl, t.1, fun _ => t.2, by (try dsimp only); omega, by (try dsimp only); omega⟩
theorem among_ex {l : List Int} (hl : Bytes l) (hn : (l.length : Int) ≤ 2000000) (a s : Int) (m : List Int) (hm : 1 ≤ (m.length : Int)) (h0 : 0 ≤ a) (h1 : a ≤ 900000000) : ∃ x a' s', spec_l00Src_among.f l a s m = some (x, a', s') ∧ a ≤ a' ∧ a' ≤ a + 2 := by
  simp only [spec_l00Src_among.f]
  obtain ⟨x, a', s', e, x0, x1, a1, a2⟩ := pick_ex hl hn a s (m.length : Int) h0 h1
  have := x1 hm
  rw [e, Option.bind_some, if_pos x0, if_pos (by omega)]
  exact ⟨_, _, _, rfl, a1, a2⟩
theorem one_ex {l : List Int} (hl : Bytes l) (hn : (l.length : Int) ≤ 2000000) (a s n : Int) (h0 : 0 ≤ a) (h1 : a ≤ 900000000) : ∃ b a' s', spec_l00Src_one.f l a s n = some (b, a', s') ∧ a ≤ a' ∧ a' ≤ a + 2 := by
  simp only [spec_l00Src_one.f]
  obtain ⟨x, a', s', e, x0, x1, a1, a2⟩ := pick_ex hl hn a s n h0 h1
  rw [e, Option.bind_some]
  exact ⟨_, _, _, rfl, a1, a2⟩
theorem number_end {l : List Int} (hl : Bytes l) (hn : (l.length : Int) ≤ 2000000) (most : Int) (hm : 0 ≤ most ∧ most ≤ 1000000000000) (k : Nat) (x a s : Int) (h0 : 0 ≤ a) (h1 : a ≤ 800000000) :
    ∃ r a' s', spec_l05Number.l0 (k + 1) most x 7 l a s = some (r, a', s') ∧ a ≤ a' ∧ a' ≤ a + 6 := by
  simp only [spec_l05Number.l0]
  have em : wrap64 (most + 1) = most + 1 := wrap_small (by omega) (by omega)
  rw [if_neg (by omega), em, if_neg (by omega)]
  obtain ⟨p, a1, s1, e1, p0, p1, b1, b2⟩ := pick_ex hl hn a s 5 h0 (by omega)
  rw [e1, Option.bind_some]
  by_cases c0 : p = 0
  · rw [if_pos c0]
    obtain ⟨q, a2, s2, e2, q0, q1, d1, d2⟩ := pick_ex hl hn a1 s1 40 (by omega) (by omega)
    simp only
    rw [e2, Option.bind_some, if_pos (wrapU _).1]
    obtain ⟨o, a3, s3, e3, f1, f2⟩ := one_ex hl hn a2 s2 2 (by omega) (by omega)
    simp only
    rw [e3, Option.bind_some]
    cases o
    · exact ⟨_, _, _, rfl, by (try dsimp only); omega, by (try dsimp only); omega⟩
    · exact ⟨_, _, _, rfl, by (try dsimp only); omega, by (try dsimp only); omega⟩
  · rw [if_neg c0]
    by_cases c1 : p = 1
    · rw [if_pos c1]
      obtain ⟨q, a2, s2, e2, d1, d2⟩ := among_ex hl hn a1 s1 [0, 1, most, wrap64 (Int.tdiv most 2)] (by simp) (by omega) (by omega)
      simp only
      rw [e2, Option.bind_some]
      obtain ⟨o, a3, s3, e3, f1, f2⟩ := one_ex hl hn a2 s2 2 (by omega) (by omega)
      simp only
      rw [e3, Option.bind_some]
      cases o
      · exact ⟨_, _, _, rfl, by (try dsimp only); omega, by (try dsimp only); omega⟩
      · exact ⟨_, _, _, rfl, by (try dsimp only); omega, by (try dsimp only); omega⟩
    · rw [if_neg c1]
      obtain ⟨o, a3, s3, e3, f1, f2⟩ := one_ex hl hn a1 s1 2 (by omega) (by omega)
      simp only
      rw [e3, Option.bind_some]
      cases o
      · exact ⟨_, _, _, rfl, by (try dsimp only); omega, by (try dsimp only); omega⟩
      · exact ⟨_, _, _, rfl, by (try dsimp only); omega, by (try dsimp only); omega⟩
theorem number_loop {l : List Int} (hl : Bytes l) (hn : (l.length : Int) ≤ 2000000) (most : Int) (hm : 0 ≤ most ∧ most ≤ 1000000000000) : ∀ (d i : Nat), d + i = 7 → ∀ (k : Nat) (x a s : Int), 0 ≤ a → a ≤ 700000000 + (i : Int) →
    ∃ r a' s', spec_l05Number.l0 (k + 1 + d) most x (i : Int) l a s = some (r, a', s') ∧ a ≤ a' ∧ a' ≤ a + (d : Int) + 6 := by
  intro d
  induction d with
  | zero =>
    intro i hi k x a s h0 h1
    obtain ⟨r, a', s', e, b1, b2⟩ := number_end hl hn most hm k x a s h0 (by omega)
    have : (i : Int) = 7 := by omega
    rw [this]
    exact ⟨r, a', s', e, b1, by omega⟩
  | succ d ih =>
    intro i hi k x a s h0 h1
    obtain ⟨y, s1, e, y0, y1⟩ := next_ex hl hn a s h0 (by omega)
    rw [show k + 1 + (d + 1) = (k + 1 + d) + 1 by omega]
    simp only [spec_l05Number.l0]
    rw [if_pos (by omega), e, Option.bind_some, wrap_small (x := (i : Int) + 1) (by omega) (by omega)]
    obtain ⟨r, a', s', e2, b1, b2⟩ := ih (i + 1) (by omega) k (Go.bits .xor .i64 (wrap64 (x * 256)) y) (a + 1) s1 (by omega) (by omega)
    have ei : ((i + 1 : Nat) : Int) = (i : Int) + 1 := by omega
    rw [ei] at e2
    exact ⟨r, a', s', e2, by omega, by omega⟩
theorem number_ex {l : List Int} (hl : Bytes l) (hn : (l.length : Int) ≤ 2000000) (most : Int) (hm : 0 ≤ most ∧ most ≤ 1000000000000) (a s : Int) (h0 : 0 ≤ a) (h1 : a ≤ 700000000) :
    ∃ r a' s', spec_l05Number.f 8 l a s most = some (r, a', s') ∧ a ≤ a' ∧ a' ≤ a + 13 := by
  obtain ⟨r, a', s', e, b1, b2⟩ := number_loop hl hn most hm 7 0 rfl 0 0 a s h0 (by omega)
  exact ⟨r, a', s', e, b1, by omega⟩
theorem part_ex {l : List Int} (hl : Bytes l) (hn : (l.length : Int) ≤ 2000000) (a s : Int) (h0 : 0 ≤ a) (h1 : a ≤ 700000000) : ∃ r1 r2 a' s', spec_E8Part.f 8 l a s = some (r1, r2, a', s') ∧ a ≤ a' ∧ a' ≤ a + 15 := by
  simp only [spec_E8Part.f]
  obtain ⟨r, a1, s1, e, b1, b2⟩ := number_ex hl hn 17179869184 (by omega) a s h0 h1
  rw [e, Option.bind_some]
  obtain ⟨q, a2, s2, e2, d1, d2⟩ := among_ex hl hn a1 s1 [0, 0, 1, 7, 1000] (by simp) (by omega) (by omega)
  simp only
  rw [e2, Option.bind_some]
  exact ⟨_, _, _, _, rfl, by (try dsimp only); omega, by (try dsimp only); omega⟩

/-! ### As functions of rows -/
def ints (rows : List Value) : List Int := rows.map cI
/-- The state may be turned: its row holds bytes, its place is not far. -/
def okS (rows : List Value) (a : Int) : Bool := rows.all (fun x => decide (0 ≤ cI x) && decide (cI x ≤ 255)) && decide ((rows.length : Int) ≤ 2000000 ∧ 0 ≤ a ∧ a ≤ 700000000)
theorem okS_iff {rows : List Value} {a : Int} : okS rows a = true ↔ Bytes (ints rows) ∧ (rows.length : Int) ≤ 2000000 ∧ 0 ≤ a ∧ a ≤ 700000000 := by
  simp only [okS, Bool.and_eq_true, List.all_eq_true, decide_eq_true_eq, Bytes, ints, List.mem_map]
  constructor
  · rintro ⟨h1, h2⟩
    refine ⟨?_, h2⟩
    rintro _ ⟨y, hy, rfl⟩
    exact h1 y hy
  · rintro ⟨h1, h2⟩
    exact ⟨fun x hx => h1 _ ⟨x, hx, rfl⟩, h2⟩
theorem ints_len (rows : List Value) : (ints rows).length = rows.length := by simp [ints]
theorem okS_mono {rows : List Value} {a b : Int} (h : okS rows a = true) (h0 : 0 ≤ b) (h1 : b ≤ 700000000) : okS rows b = true := by
  rw [okS_iff] at *
  exact ⟨h.1, h.2.1, h0, h1⟩
def partF (rows : List Value) (a s : Int) : Iv × Int × Int := match spec_E8Part.f 8 (ints rows) a s with
  | some (x, y, a', s') => (⟨x, y⟩, a', s')
  | none => (⟨0, 0⟩, a, s)
def numF (rows : List Value) (a s most : Int) : Int × Int × Int := match spec_l05Number.f 8 (ints rows) a s most with
  | some (x, a', s') => (x, a', s')
  | none => (0, a, s)
theorem partF_at {rows : List Value} {a s : Int} (h : okS rows a = true) : a ≤ (partF rows a s).2.1 ∧ (partF rows a s).2.1 ≤ a + 15 := by
  obtain ⟨h1, h2, h3, h4⟩ := okS_iff.1 h
  obtain ⟨r1, r2, a', s', e, b1, b2⟩ := part_ex h1 (by rw [ints_len]; exact h2) a s h3 h4
  simp only [partF, e]
  exact ⟨b1, b2⟩
theorem numF_at {rows : List Value} {a s most : Int} (hm : 0 ≤ most ∧ most ≤ 1000000000000) (h : okS rows a = true) : a ≤ (numF rows a s most).2.1 ∧ (numF rows a s most).2.1 ≤ a + 13 := by
  obtain ⟨h1, h2, h3, h4⟩ := okS_iff.1 h
  obtain ⟨r1, a', s', e, b1, b2⟩ := number_ex h1 (by rw [ints_len]; exact h2) most hm a s h3 h4
  simp only [numF, e]
  exact ⟨b1, b2⟩

/-! ### The machine's states are the interpreter's -/
theorem reads {W : World} {p : Pl} {rows : List Value} {e : TypeId} (h : Lst p (.int .u8 0) rows false e W) (hn : (rows.length : Int) ≤ 2000000) : Kd.C (Kd.int .u8) W p.ha (ints rows).length (ints rows) := by
  refine ⟨rfl, by rw [ints_len]; omega, fun h0 => ?_⟩
  rw [ints_len] at h0
  have hsz : p.sz = 1 := by rw [← h.szz]; rfl
  rcases h.lay with ⟨_, h2, _⟩ | ⟨k, o, c, t', fz, h1, h2, h3, h4⟩
  · subst h2; simp at h0
  · refine ⟨⟨k, o, none⟩, h1, fun j x hj => ⟨[.int .u8 x], rfl, rfl, fun i u hu => ?_⟩⟩
    have hrow : ∀ r ∈ rows, r = .int .u8 (cI r) := fun r hr => (h.row r hr).1
    have hf : flat rows = rows := by
      clear hj h4 h0 hn h
      induction rows with
      | nil => rfl
      | cons r l ih =>
        have := hrow r (by simp)
        rw [show flat (r :: l) = r.cells.toList ++ flat l from rfl, ih fun x hx => hrow x (by simp [hx])]
        rw [this]
        rfl
    rw [hf, hsz, Nat.mul_one] at h4
    have hi : i = 0 := by
      have := (List.getElem?_eq_some_iff.1 hu).1
      simp at this
      exact this
    subst hi
    simp only [List.getElem?_cons_zero, Option.some.injEq] at hu
    subst hu
    simp only [ints, List.getElem?_map, Option.map_eq_some_iff] at hj
    obtain ⟨r, hr, rfl⟩ := hj
    have hjl := (List.getElem?_eq_some_iff.1 hr).1
    have e1 : (c.toList.drop o)[j]? = some r := by
      have e2 : ((c.toList.drop o).take rows.length)[j]? = some r := by rw [h4]; exact hr
      rwa [List.getElem?_take_of_lt hjl] at e2
    rw [List.getElem?_drop] at e1
    have hr2 := hrow r (List.mem_of_getElem? hr)
    have ea : (⟨k, o, none⟩ : Addr).add (j * (Kd.int .u8).sz + 0) = ⟨k, o + j, none⟩ := by simp [Addr.add, Kd.int, Kd.scalar]
    rw [ea]
    unfold World.cell?
    rw [h3]
    simp only []
    rw [← Array.getElem?_toList, e1, ← hr2]
    rfl
theorem isS_of {W w : World} {gk : Nat} {p : Pl} {rows : List Value} {e : TypeId} {a s : Int} (hb : w.heap[gk]? = some (.cells #[.slice p.ha p.hl p.hc, .int .i64 a, .int .u64 s] 63 (0, 0))) (hg : W.heap.size ≤ gk)
    (hL : Lst p (.int .u8 0) rows false e W) (hn : (rows.length : Int) ≤ 2000000) : IsS63 (p.ha, p.hc) W w gk (ints rows) a s := by
  refine ⟨p.ha, p.hc, ?_, hg, reads hL hn, rfl⟩
  rw [ints_len, ← hL.len]
  exact hb
theorem isS_to {W w : World} {gk : Nat} {p : Pl} {rows : List Value} {e : TypeId} {a s : Int} (hL : Lst p (.int .u8 0) rows false e W) (h : IsS63 (p.ha, p.hc) W w gk (ints rows) a s) :
    w.heap[gk]? = some (.cells #[.slice p.ha p.hl p.hc, .int .i64 a, .int .u64 s] 63 (0, 0)) := by
  obtain ⟨A0, c0, hb, _, _, e⟩ := h
  cases e
  rw [ints_len, ← hL.len] at hb
  exact hb
theorem from_makes (e : TypeId) (rows : List Value) (h : okS rows 0 = true) : SrcMakes Tryz.prog 28 63 (.int .u8 0) e rows := by
  intro w p hL
  obtain ⟨h1, h2, h3, h4⟩ := okS_iff.1 h
  have hl := hL.len
  have hlc := hL.lc
  have key := spec_l00From.calls p.ha p.hc (ints rows) (ints rows) 0 0 w w (Below.refl _ _) (reads hL h2) (by rw [ints_len]; omega) rfl
  rw [ints_len, ← hl] at key
  refine key.mono ?_
  rintro en w' ⟨gk, rfl, k1, k2, _⟩
  have hb := isS_to hL k1
  exact ⟨gk, rfl, k1.ge, hb, k2⟩
theorem part_does (W : World) (e : TypeId) (rows : List Value) (a s : Int) (h : okS rows a = true) : SrcDoes Tryz.prog 29 63 W (.int .u8 0) e rows [] a s (cIv.enc (partF rows a s).1) (partF rows a s).2.1 (partF rows a s).2.2 := by
  intro w gk p hb hg hL hlow hB
  obtain ⟨h1, h2, h3, h4⟩ := okS_iff.1 h
  obtain ⟨r1, r2, a', s', e1, _, _⟩ := part_ex h1 (by rw [ints_len]; exact h2) a s h3 h4
  refine (spec_E8Part.calls 8 (p.ha, p.hc) gk (ints rows) a s r1 r2 a' s' W w (isS_of hb hg hL h2) hB e1).mono ?_
  rintro en w' ⟨rfl, k1, k2, k3⟩
  simp only [partF, e1]
  exact ⟨rfl, isS_to hL k1, k2, k3.1, fun k hk hne => k3.2 k hk hne (by simp)⟩
theorem num_does (W : World) (e : TypeId) (rows : List Value) (a s most : Int) (h : (okS rows a && decide (0 ≤ most ∧ most ≤ 1000000000000)) = true) : SrcDoes Tryz.prog 49 63 W (.int .u8 0) e rows [(cInt .i64).enc most] a s ((cInt .i64).enc (numF rows a s most).1) (numF rows a s most).2.1 (numF rows a s most).2.2 := by
  intro w gk p hb hg hL hlow hB
  simp only [Bool.and_eq_true, decide_eq_true_eq] at h
  obtain ⟨h1, h2, h3, h4⟩ := okS_iff.1 h.1
  obtain ⟨r1, a', s', e1, _, _⟩ := number_ex h1 (by rw [ints_len]; exact h2) most h.2 a s h3 h4
  refine (spec_l05Number.calls 8 (p.ha, p.hc) gk (ints rows) a s most r1 a' s' W w (isS_of hb hg hL h2) hB e1).mono ?_
  rintro en w' ⟨rfl, k1, k2, k3⟩
  simp only [numF, e1]
  exact ⟨rfl, isS_to hL k1, k2, k3.1, fun k hk hne => k3.2 k hk hne (by simp)⟩
end Go.Proofs.YtogpbandlpjccaaGreat.TX
