/- What the printed functions come to: ellipsoids out of texts. -/
import Derived.Test.YtoncbpohjdackaaDoorQ2
import Derived.Test.YtoncbpohjdackaaDoorX4
import Derived.Lib.ParseIntB
set_option linter.unusedVariables false
set_option linter.unusedSimpArgs false
namespace Go.Proofs.YtoncbpohjdackaaDoor.TX
open Go.RowKit Go.Proofs.YtoncbpohjdackaaDoorW.PrintWords Go.Proofs.YtoncbpohjdackaaDoorW.PrintLast Go.Proofs.YtoncbpohjdackaaDoorW.PrintMore
open Go.TX Go.Lib

/-! ### Bytes of a text -/
theorem bt_bs (l : List UInt8) (i : Nat) (h : i < l.length) : bt (bs l) (i : Int) = ((l[i]).toNat : Int) := by
  unfold bt
  have hs : (i : Int).toNat < (bs l).size := by rw [bs_size]; simpa using h
  rw [dif_pos hs]
  rfl
theorem bs_extract (l : List UInt8) (a b : Nat) : (bs l).extract a b = bs ((l.take b).drop a) := by
  rw [← bs_toList ((bs l).extract a b)]
  congr 2
  simp [ByteArray.data_extract, List.drop_take]
theorem bs_extract_end (l : List UInt8) (a : Nat) : (bs l).extract a (bs l).size = bs (l.drop a) := by
  rw [bs_extract, bs_size, List.take_length]

/-! ### Numbers -/
theorem val_ge (acc : Nat) (l : List UInt8) : acc ≤ val acc l := by
  induction l generalizing acc with
  | nil => exact Nat.le_refl _
  | cons b l ih => rw [val_cons]; exact Nat.le_trans (by omega) (ih _)
theorem isD_iff (b : UInt8) : isD b = true ↔ 48 ≤ b.toNat ∧ b.toNat ≤ 57 := by simp [isD]
theorem parseM_val (M : Nat) (hM : 1000000000000000000 ≤ M) : ∀ (l : List UInt8) (acc : Nat), l.all isD = true → val acc l < 1000000000000000000 → parseUintM M acc l = .ok (val acc l)
  | [], acc, _, _ => rfl
  | b :: l, acc, hd, hv => by
    simp only [List.all_cons, Bool.and_eq_true] at hd
    have h1 := (isD_iff b).1 hd.1
    rw [val_cons] at hv ⊢
    have h2 := val_ge (10 * acc + dv b) l
    have e : acc * 10 + (b.toNat - 48) = 10 * acc + dv b := by unfold dv; omega
    rw [parseUintM, if_pos h1, if_neg (by omega), e, if_neg (by omega)]
    exact parseM_val M hM l _ hd.2 hv
theorem dec_cons (n : Nat) : ∃ b r, decDigits n = b :: r ∧ isD b = true := by
  have h := dec_isD n
  have h0 := dec_length_pos n
  cases hd : decDigits n with
  | nil => rw [hd] at h0; simp at h0
  | cons b r =>
    rw [hd] at h
    simp only [List.all_cons, Bool.and_eq_true] at h
    exact ⟨b, r, rfl, h.1⟩
theorem unm_itoa (v : Int) : unm (itoa v) = decDigits v.natAbs := by
  rw [itoa_sgn]
  unfold sgn
  by_cases h : v < 0
  · rw [if_pos h]; simp [unm]
  · rw [if_neg h, List.nil_append]
    obtain ⟨b, r, e, hb⟩ := dec_cons v.natAbs
    rw [e]
    have : b ≠ 45 := by intro h; subst h; simp [isD] at hb
    simp [unm, this]
theorem parse_itoa (v : Int) (h : v.natAbs < 1000000000000000000) : parseIntB 64 (itoa v) = .ok v := by
  have hv := val_dec v.natAbs
  have hp := parseM_val 18446744073709551615 (by omega) (decDigits v.natAbs) 0 (dec_isD _) (by rw [hv]; exact h)
  rw [hv] at hp
  have hu : parseUintB 64 (decDigits v.natAbs) = .ok v.natAbs := by
    unfold parseUintB
    rw [if_neg (by intro h0; have := dec_length_pos v.natAbs; rw [h0] at this; simp at this)]
    exact hp
  rw [itoa_sgn]
  unfold sgn
  by_cases hn : v < 0
  · rw [if_pos hn]
    unfold parseIntB
    simp only [List.cons_append, List.nil_append]
    rw [if_pos (by right; rfl), hu]
    simp only
    rw [if_neg (by simp), if_neg (by have : (2 : Nat) ^ 63 = 9223372036854775808 := rfl; simp only [show 64 - 1 = 63 from rfl]; omega), if_pos (by rfl)]
    congr 1; omega
  · rw [if_neg hn, List.nil_append]
    obtain ⟨b, r, e, hb⟩ := dec_cons v.natAbs
    have hb' := (isD_iff b).1 hb
    have h45 : ¬ b.toNat = 45 := by omega
    have h43 : ¬ (b.toNat = 43 ∨ b.toNat = 45) := by omega
    rw [e] at hu ⊢
    unfold parseIntB
    simp only
    rw [if_neg h43, hu]
    simp only [h45, not_false_eq_true, true_and, false_and, if_false]
    rw [if_neg (by have : (2 : Nat) ^ 63 = 9223372036854775808 := rfl; simp only [show 64 - 1 = 63 from rfl]; omega)]
    congr 1; omega
/-- l is a numeral of at most 18 digits. -/
def IsNum (l : List UInt8) (v : Int) : Prop := itoa v = l ∧ v.natAbs < 1000000000000000000
theorem pow18 : (10 : Nat) ^ 18 = 1000000000000000000 := rfl
theorem readDec_yes {l : List UInt8} {v : Int} (h : IsNum l v) : readDec l = (v, true) := by
  obtain ⟨rfl, hv⟩ := h
  unfold readDec
  rw [parse_itoa v hv]
  simp only [if_true]
  rw [if_pos]
  rw [unm_itoa]
  exact dec_length_le _ 18 (by omega) hv
theorem readDec_no {l : List UInt8} (h : ∀ v, ¬ IsNum l v) : readDec l = (0, false) := by
  unfold readDec
  cases hp : parseIntB 64 l with
  | ok v =>
    simp only
    by_cases h1 : itoa v = l
    · rw [if_pos h1]
      by_cases h2 : (unm l).length ≤ 18
      · exfalso
        refine h v ⟨h1, ?_⟩
        rw [← h1, unm_itoa] at h2
        exact lt_of_dec_length _ 18 h2
      · rw [if_neg h2]
    · rw [if_neg h1]
  | _ => rfl
/-- What the reference makes of a text's digits. -/
def numL (l : List UInt8) : Int × Bool :=
  if (unm l).length < 1 ∨ (unm l).length > 18 then (0, false)
  else if (unm l).all isD = true then
    (if itoa (if (unm l).length < l.length then -(val 0 (unm l) : Int) else val 0 (unm l)) = l then (if (unm l).length < l.length then -(val 0 (unm l) : Int) else val 0 (unm l), true) else (0, false))
  else (0, false)
theorem val_lt18 (l : List UInt8) (h : l.all isD = true) (hl : l.length ≤ 18) : val 0 l < 1000000000000000000 := by
  have := val_lt l 0 h
  have h2 : 10 ^ l.length ≤ 10 ^ 18 := Nat.pow_le_pow_right (by omega) hl
  rw [pow18] at h2
  omega
theorem unm_len (l : List UInt8) : (unm l).length ≤ l.length := by
  cases l with
  | nil => exact Nat.le_refl _
  | cons b r => unfold unm; simp only; split <;> simp
theorem numL_eq (l : List UInt8) : numL l = readDec l := by
  by_cases hx : ∃ v, IsNum l v
  · obtain ⟨v, hv⟩ := hx
    rw [readDec_yes hv]
    obtain ⟨rfl, hv⟩ := hv
    unfold numL
    rw [unm_itoa]
    have h1 := dec_length_pos v.natAbs
    have h2 := dec_length_le v.natAbs 18 (by omega) hv
    rw [if_neg (by omega), if_pos (dec_isD _), val_dec]
    have e : (if (decDigits v.natAbs).length < (itoa v).length then -(v.natAbs : Int) else (v.natAbs : Int)) = v := by
      rw [itoa_sgn]
      unfold sgn
      by_cases hn : v < 0
      · rw [if_pos hn, if_pos (by simp)]; omega
      · rw [if_neg hn, if_neg (by simp)]; omega
    rw [e, if_pos rfl]
  · rw [readDec_no (fun v hv => hx ⟨v, hv⟩)]
    unfold numL
    by_cases h1 : (unm l).length < 1 ∨ (unm l).length > 18
    · rw [if_pos h1]
    · rw [if_neg h1]
      by_cases h2 : (unm l).all isD = true
      · rw [if_pos h2]
        have h3 := val_lt18 _ h2 (by omega)
        rw [if_neg]
        intro he
        refine hx ⟨_, he, ?_⟩
        split <;> omega
      · rw [if_neg h2]
theorem isNum_bytes {l : List UInt8} {v : Int} (h : IsNum l v) {b : UInt8} (hb : isD b = false) (h45 : b ≠ 45) : b ∉ l := by
  rw [← h.1, itoa_sgn]
  intro hm
  rcases List.mem_append.1 hm with h1 | h1
  · unfold sgn at h1
    split at h1
    · simp at h1; exact h45 h1
    · simp at h1
  · exact not_mem_of_all (dec_isD _) hb h1
theorem readDec_bad {l : List UInt8} {b : UInt8} (hm : b ∈ l) (hb : isD b = false) (h45 : b ≠ 45) : readDec l = (0, false) :=
  readDec_no fun v hv => isNum_bytes hv hb h45 hm
theorem readDec_nil : readDec [] = (0, false) := readDec_no fun v hv => by
  have := hv.1
  rw [itoa_sgn] at this
  have h0 := dec_length_pos v.natAbs
  have := congrArg List.length this
  rw [List.length_append, List.length_nil] at this
  omega

/-! ### The reference's number -/
theorem l01Digit_f (b : UInt8) : spec_l01Digit.f (b.toNat : Int) = some (isD b) := by
  unfold spec_l01Digit.f isD
  by_cases h : (b.toNat : Int) ≥ 48
  · rw [if_pos h]; congr 1
    have : 48 ≤ b.toNat := by omega
    simp [this]; omega
  · rw [if_neg h]
    have : ¬ 48 ≤ b.toNat := by omega
    simp [this]
theorem sub48 (b : UInt8) (h : isD b = true) : ((b.toNat : Int) - 48) % 256 = (dv b : Int) := by
  have := (isD_iff b).1 h
  unfold dv; omega
theorem number_loop (l t : List UInt8) (ht : t.length ≤ 18) (hl : l.length ≤ 2000000) (r : Int × Bool)
    (hr : r = if t.all isD = true then (if itoa (if t.length < l.length then -(val 0 t : Int) else val 0 t) = l then (if t.length < l.length then -(val 0 t : Int) else val 0 t, true) else (0, false)) else (0, false)) :
    ∀ (rest pre : List UInt8), t = pre ++ rest → pre.all isD = true → Ev (fun k => spec_l01Number.l0 k (bs l) (bs t) (val 0 pre : Nat) (pre.length : Nat)) r := by
  intro rest
  induction rest with
  | nil =>
    intro pre hp ha
    rw [List.append_nil] at hp
    subst hp
    rw [if_pos ha] at hr
    have hv := val_lt18 t ha ht
    by_cases hlt : t.length < l.length
    · rw [if_pos hlt] at hr
      have i1 : i64 (-(val 0 t : Int)) := by unfold i64; omega
      obtain ⟨K, hK⟩ := l01Dec_ev _ i1.1 i1.2
      refine ev_succ K fun k hk => ?_
      have e := hK k hk
      simp only at e
      simp only [spec_l01Number.l0]
      rw [if_neg (by rw [bs_size]; omega), if_pos (by rw [bs_size, bs_size]; omega), wrap_small i1.1 i1.2, e, Option.bind_some, bs_list, bs_list, hr]
      split <;> rfl
    · rw [if_neg hlt] at hr
      have i1 : i64 (val 0 t : Int) := by unfold i64; omega
      obtain ⟨K, hK⟩ := l01Dec_ev _ i1.1 i1.2
      refine ev_succ K fun k hk => ?_
      have e := hK k hk
      simp only at e
      simp only [spec_l01Number.l0]
      rw [if_neg (by rw [bs_size]; omega), if_neg (by rw [bs_size, bs_size]; omega), e, Option.bind_some, bs_list, bs_list, hr]
      split <;> rfl
  | cons b rest ih =>
    intro pre hp ha
    have hi : pre.length < t.length := by rw [hp]; simp
    have hb : bt (bs t) (pre.length : Int) = (b.toNat : Int) := by
      rw [bt_bs t _ hi]
      congr 2
      simp [hp]
    by_cases hd : isD b = true
    · have hall : (pre ++ [b]).all isD = true := by rw [List.all_append, ha]; simp [hd]
      have hv := val_lt18 (pre ++ [b]) hall (by simp; omega)
      have hve : val 0 (pre ++ [b]) = 10 * val 0 pre + dv b := by rw [val_append, val_one]
      refine Ev.step (f := fun k => spec_l01Number.l0 k (bs l) (bs t) ((val 0 (pre ++ [b]) : Nat) : Int) (((pre ++ [b]).length : Nat) : Int)) (fun k => ?_) (ih (pre ++ [b]) (by rw [hp]; simp) hall)
      simp only [spec_l01Number.l0]
      rw [if_pos (by rw [bs_size]; omega), if_pos (by omega), hb, l01Digit_f, Option.bind_some, if_pos hd, sub48 b hd, wrap_small (x := 10 * (val 0 pre : Int)) (by omega) (by omega), wrap_small (by omega) (by omega), wrap_small (x := (pre.length : Int) + 1) (by omega) (by omega)]
      congr 1
      · omega
      · simp
    · refine ev_of_all fun k => ?_
      simp only [spec_l01Number.l0]
      rw [if_pos (by rw [bs_size]; omega), if_pos (by omega), hb, l01Digit_f, Option.bind_some, if_neg hd, hr, if_neg]
      intro h
      rw [hp, List.all_append] at h
      simp only [List.all_cons, Bool.and_eq_true] at h
      exact hd h.2.1
theorem l01Number_ev (l : List UInt8) (hl : l.length ≤ 2000000) : Ev (fun k => spec_l01Number.f k (bs l)) (readDec l) := by
  rw [← numL_eq]
  have hj1 : Ev (fun k => spec_l01Number.j1 k (bs l) (bs (unm l))) (numL l) := by
    unfold numL
    by_cases h1 : (unm l).length < 1 ∨ (unm l).length > 18
    · rw [if_pos h1]
      refine ev_succ 1 fun k hk => ?_
      obtain ⟨k, rfl⟩ : ∃ k', k = k' + 1 := ⟨k - 1, by omega⟩
      simp only [spec_l01Number.j1, spec_l01Number.j2]
      by_cases h2 : (unm l).length < 1
      · rw [if_pos (by rw [bs_size]; omega)]; simp
      · rw [if_neg (by rw [bs_size]; omega), if_pos]
        rw [decide_eq_true_eq, bs_size]; omega
    · rw [if_neg h1]
      obtain ⟨K, hK⟩ := number_loop l (unm l) (by omega) hl _ rfl (unm l) [] rfl rfl
      refine ev_succ (K + 1) fun k hk => ?_
      obtain ⟨k, rfl⟩ : ∃ k', k = k' + 1 := ⟨k - 1, by omega⟩
      have e := hK k (by omega)
      simp only at e
      simp only [spec_l01Number.j1, spec_l01Number.j2]
      rw [if_neg (by rw [bs_size]; omega), if_neg (by rw [decide_eq_true_eq, bs_size]; omega)]
      exact e
  obtain ⟨K, hK⟩ := hj1
  refine ⟨K + 1, fun k hk => ?_⟩
  obtain ⟨k, rfl⟩ : ∃ k', k = k' + 1 := ⟨k - 1, by omega⟩
  have e := hK k (by omega)
  simp only at e
  simp only [spec_l01Number.f]
  rw [bs_list]
  cases hlc : l with
  | nil =>
    rw [hlc] at e
    rw [if_pos rfl]
    simp only [spec_l01Number.j0]
    rw [if_neg (by simp)]
    exact e
  | cons b r =>
    rw [if_neg (by simp), if_pos (by rw [bs_size]; simp)]
    have hb : bt (bs (b :: r)) 0 = (b.toNat : Int) := bt_bs (b :: r) 0 (by simp)
    rw [hb]
    rw [hlc] at e
    simp only [spec_l01Number.j0]
    by_cases h45 : b = 45
    · subst h45
      rw [if_pos (by rfl), if_pos (by rw [bs_size]; simp; omega), show (1 : Nat) = 1 from rfl, bs_extract_end]
      exact e
    · have hu : unm (b :: r) = b :: r := by simp [unm, h45]
      rw [hu] at e
      rw [if_neg]
      · exact e
      · intro h
        have : (b.toNat : Int) = 45 := by simpa using h
        exact h45 (UInt8.toNat_inj.1 (by show b.toNat = 45; omega))

/-! ### The reference's parts -/
theorem split_loop (c : UInt8) (l : List UInt8) (hl : l.length ≤ 2000000) (r : List ByteArray) : ∀ (rest cur pre : List UInt8) (done : List ByteArray), l = pre ++ (cur ++ rest) → c ∉ cur → done.length ≤ pre.length + cur.length → r = done ++ (splitB c (cur ++ rest)).map bs →
    Ev (fun k => spec_l01Split.l0 k (bs l) (c.toNat : Int) done (pre.length : Nat) ((pre.length + cur.length : Nat) : Int)) r := by
  intro rest
  induction rest with
  | nil =>
    intro cur pre done hp hc hd hr
    rw [List.append_nil] at hp hr
    rw [split_none hc] at hr
    refine ev_of_all fun k => ?_
    have hlen : l.length = pre.length + cur.length := by rw [hp]; simp
    simp only [spec_l01Split.l0]
    rw [if_neg (by rw [bs_size]; omega), if_pos (by omega), if_pos (by rw [bs_size]; omega), if_pos (by omega), hr]
    congr 2
    simp only [Int.toNat_natCast, List.map_cons, List.map_nil]
    rw [bs_extract_end, hp]; simp
  | cons b rest ih =>
    intro cur pre done hp hc hd hr
    have hlen : l.length = pre.length + cur.length + (rest.length + 1) := by rw [hp]; simp; omega
    have hi : pre.length + cur.length < l.length := by omega
    have hb : bt (bs l) ((pre.length + cur.length : Nat) : Int) = (b.toNat : Int) := by
      rw [bt_bs l _ hi]
      congr 2
      simp [hp]
    by_cases hbc : b = c
    · subst hbc
      refine Ev.step (f := fun k => spec_l01Split.l0 k (bs l) (b.toNat : Int) (done ++ [bs cur]) (((pre ++ (cur ++ [b])).length : Nat) : Int) (((pre ++ (cur ++ [b])).length + ([] : List UInt8).length : Nat) : Int)) (fun k => ?_)
        (ih [] (pre ++ (cur ++ [b])) (done ++ [bs cur]) (by rw [hp]; simp) (by simp) (by simp; omega) (by rw [hr, split_app cur rest hc]; simp))
      simp only [spec_l01Split.l0]
      rw [if_pos (by rw [bs_size]; omega), if_pos (by omega), if_pos hb, if_pos (by omega), if_pos (by omega), if_pos (by rw [bs_size]; omega), if_pos (by omega), wrap_small (by omega) (by omega)]
      have he : (bs l).extract ((pre.length : Nat) : Int).toNat (((pre.length + cur.length : Nat) : Int)).toNat = bs cur := by
        simp only [Int.toNat_natCast]
        rw [bs_extract, hp]
        congr 2
        rw [show pre.length + cur.length = pre.length + cur.length from rfl, ← List.append_assoc, List.take_left' (by simp), List.drop_left]
      rw [he]
      congr 1 <;> simp <;> omega
    · refine Ev.step (f := fun k => spec_l01Split.l0 k (bs l) (c.toNat : Int) done (pre.length : Nat) ((pre.length + (cur ++ [b]).length : Nat) : Int)) (fun k => ?_)
        (ih (cur ++ [b]) pre done (by rw [hp]; simp) (by simp [hc, Ne.symm hbc]) (by simp; omega) (by rw [hr]; simp))
      simp only [spec_l01Split.l0]
      rw [if_pos (by rw [bs_size]; omega), if_pos (by omega), if_neg, wrap_small (by omega) (by omega)]
      · congr 1
        simp; omega
      · rw [hb]
        intro h
        exact hbc (UInt8.toNat_inj.1 (by omega))
theorem l01Split_ev (c : UInt8) (l : List UInt8) (hl : l.length ≤ 2000000) : Ev (fun k => spec_l01Split.f k (bs l) (c.toNat : Int)) ((splitB c l).map bs) :=
  split_loop c l hl _ l [] [] [] rfl (by simp) (by simp) (by simp)
end Go.Proofs.YtoncbpohjdackaaDoor.TX
