/- Points and angles are restored from their texts. -/
import Derived.Test.YtogpbandlpjccaaGreatDoorXP4
set_option linter.unusedVariables false
set_option linter.unusedSimpArgs false
namespace Go.Proofs.YtogpbandlpjccaaGreatDoor.TX
open Go.RowKit Go.Proofs.YtogpbandlpjccaaGreatDoorW.PrintWords Go.Proofs.YtogpbandlpjccaaGreatDoorW.PrintLast Go.Proofs.YtogpbandlpjccaaGreatDoorW.PrintMore
open Go.TX Go.Lib
theorem dec_cons (n : Nat) : ∃ b r, decDigits n = b :: r ∧ isD b = true := by
  have h := dec_isD n
  have h0 := dec_length_pos n
  cases hd : decDigits n with
  | nil => rw [hd] at h0; simp at h0
  | cons b r =>
    rw [hd] at h
    simp only [List.all_cons, Bool.and_eq_true] at h
    exact ⟨b, r, rfl, h.1⟩
theorem bs_extract (l : List UInt8) (a b : Nat) : (bs l).extract a b = bs ((l.take b).drop a) := by
  rw [← bs_toList ((bs l).extract a b)]
  congr 2
  simp [ByteArray.data_extract, List.drop_take]
theorem unm_dec (m : Int) (q : Nat) : unm (sgn m ++ decDigits q) = decDigits q := by
  unfold sgn
  by_cases h : m < 0
  · rw [if_pos h]; simp [unm]
  · rw [if_neg h, List.nil_append]
    obtain ⟨b, r, e, hb⟩ := dec_cons q
    rw [e]
    have : b ≠ 45 := by intro h; subst h; simp [isD] at hb
    simp [unm, this]
theorem sgn_not (m : Int) {b : UInt8} (h : b ≠ 45) : b ∉ sgn m := by
  unfold sgn; split <;> simp [h]
theorem dt7 (m : Int) : dt 7 m = (sgn m ++ decDigits (m.natAbs / 10000000)) ++ 46 :: digs 7 (m.natAbs % 10000000) := by
  show sgn m ++ (decDigits (m.natAbs / 10000000) ++ (46 :: digs 7 (m.natAbs % 10000000))) = _
  simp
theorem isD32' : isD 32 = false := by decide
theorem isD46 : isD 46 = false := by decide
theorem sgn_len (m : Int) : (sgn m).length ≤ 1 := by unfold sgn; split <;> simp
theorem readDig_dt (m : Int) (h : m.natAbs ≤ 1800000000) : readDig (dt 7 m) = (m, 7, true) := by
  have hq : m.natAbs / 10000000 < 10 ^ 3 := by show _ < 1000; omega
  have hr : m.natAbs % 10000000 < 10 ^ 7 := by show _ < 10000000; omega
  have hl1 := dec_length_le _ 3 (by omega) hq
  have hl0 := dec_length_pos (m.natAbs / 10000000)
  have hl2 := digs_length 7 (m.natAbs % 10000000)
  have hn46 : (46 : UInt8) ∉ sgn m ++ decDigits (m.natAbs / 10000000) := by
    intro hm
    rcases List.mem_append.1 hm with h1 | h1
    · exact sgn_not m (by decide) h1
    · exact not_mem_of_all (dec_isD _) isD46 h1
  have hc : cut1 46 (dt 7 m) = (sgn m ++ decDigits (m.natAbs / 10000000), digs 7 (m.natAbs % 10000000)) := by rw [dt7]; exact cut1_append _ hn46
  have hm46 : (46 : UInt8) ∈ dt 7 m := by rw [dt7]; simp
  have hval : val 0 (decDigits (m.natAbs / 10000000) ++ digs 7 (m.natAbs % 10000000)) = m.natAbs := by
    rw [val_append, val_dec, val_digs 7 _ _ hr]
    show m.natAbs / 10000000 * 10000000 + m.natAbs % 10000000 = m.natAbs
    omega
  unfold readDig
  simp only [hc, unm_dec]
  rw [if_neg (by rw [decide_eq_true hm46, decide_eq_true (by omega)]; simp), if_neg (by omega), if_neg (by omega), if_neg (by rw [List.all_append, dec_isD, digs_isD]; simp), hval]
  have e : (if decDigits (m.natAbs / 10000000) = sgn m ++ decDigits (m.natAbs / 10000000) then (m.natAbs : Int) else -(m.natAbs : Int)) = m := by
    by_cases hn : m < 0
    · rw [if_neg]
      · omega
      · intro he
        have := congrArg List.length he
        unfold sgn at this
        rw [if_pos hn] at this
        simp at this
    · rw [if_pos]
      · omega
      · unfold sgn; rw [if_neg hn]; simp
  rw [e, hl2]
  simp
def implDeg (l : List UInt8) : Int × Bool := if (readDig l).2.2 = true then (if (readDig l).2.1 = 7 then ((readDig l).1, true) else (0, false)) else (0, false)
theorem implDeg_dt (m : Int) (h : m.natAbs ≤ 1800000000) : implDeg (dt 7 m) = (m, true) := by
  unfold implDeg
  rw [readDig_dt m h]; rfl
theorem dt_bytes (m : Int) : (32 : UInt8) ∉ dt 7 m := by
  rw [dt7]
  intro hm
  rcases List.mem_append.1 hm with h1 | h1
  · rcases List.mem_append.1 h1 with h1 | h1
    · exact sgn_not m (by decide) h1
    · exact not_mem_of_all (dec_isD _) isD32' h1
  · rcases List.mem_cons.1 h1 with h1 | h1
    · exact absurd h1 (by decide)
    · exact not_mem_of_all (digs_isD _ _) isD32' h1
def combP (p q : Int × Bool) : Int × Int × Bool := if p.2 = true then (if q.2 = true then (if okP p.1 q.1 = true then (p.1, q.1, true) else (0, 0, false)) else (0, 0, false)) else (0, 0, false)
theorem okP_deg {a b : Int} (h : okP a b = true) : a.natAbs ≤ 1800000000 ∧ b.natAbs ≤ 1800000000 := by
  simp only [okP, decide_eq_true_eq] at h; omega
def implRP (l : List UInt8) : Int × Int × Bool := combP (implDeg (cut1 32 l).1) (implDeg (cut1 32 l).2)
theorem readDegrees_f (l : List UInt8) (h : l.length < 4294967281) : impl_readDegrees.f (bs l) = some (implDeg l) := by
  unfold impl_readDegrees.f impl_readDigits.f implDeg
  rw [if_pos (by rw [bs_size]; exact h), Option.bind_some]
  simp only [show (bs l).data.toList = l from rfl]
  by_cases h1 : (readDig l).2.2 = true
  · rw [if_pos h1, if_pos h1]
    by_cases h2 : (readDig l).2.1 = 7
    · rw [if_pos h2, if_pos h2]
    · rw [if_neg h2, if_neg h2]
  · rw [if_neg h1, if_neg h1]
theorem implRP_f (l : List UInt8) (h : l.length < 4294967281) : impl_ReadPoint.f (bs l) = some (implRP l) := by
  have h1 := cut1_len' 32 l
  have e1 : strings_Cut.f (bs l) (bs [32]) = some (bs (cut1 32 l).1, bs (cut1 32 l).2, decide (32 ∈ l)) := by
    unfold strings_Cut.f
    rw [if_pos (by rw [bs_size]; exact h)]
    have := cut_eq 32 l
    simp only [this]
  unfold impl_ReadPoint.f
  rw [show (⟨#[32]⟩ : ByteArray) = bs [32] from rfl, e1, Option.bind_some]
  simp only
  rw [readDegrees_f _ (by omega), Option.bind_some, readDegrees_f _ (by omega), Option.bind_some]
  unfold implRP combP
  simp only [validP_f, Option.bind_some]
  split <;> first | rfl | (split <;> first | rfl | (split <;> rfl))
def aval (d m s p : Nat) : Nat := d * 10000000 + (m * 6000000 + s * 100000 + p) / 36
def aneg (l : List UInt8) (n : Nat) : Int := if (unm l).length < l.length then -(n : Int) else n
def afin (l : List UInt8) (n : Int) : Int × Bool := if -1800000000 ≤ n ∧ n ≤ 1800000000 then (if atext n = l then (n, true) else (0, false)) else (0, false)
def implA (l : List UInt8) : Int × Bool :=
  let x := (cut1 100 (unm l)).1
  let y := (cut1 109 (cut1 100 (unm l)).2).1
  let z := (cut1 109 (cut1 100 (unm l)).2).2
  if 3 < x.length ∨ y.length ≠ 2 ∨ z.length ≠ 9 then (0, false)
  else if ¬ ((x ++ y ++ z.take 2 ++ (z.take 8).drop 3).all isD = true) then (0, false)
  else afin l (aneg l (aval (val 0 x) (val 0 y) (val 0 (z.take 2)) (val 0 ((z.take 8).drop 3))))
theorem isD100 : isD 100 = false := by decide
theorem isD109 : isD 109 = false := by decide
def az (N : Nat) : List UInt8 := digs 2 (N % 10000000 * 36 % 6000000 / 100000) ++ 46 :: (digs 5 (N % 10000000 * 36 % 100000) ++ [115])
def arest (N : Nat) : List UInt8 := digs 2 (N % 10000000 * 36 / 6000000) ++ 109 :: az N
theorem atext_eq (n : Int) : atext n = sgn n ++ (decDigits (n.natAbs / 10000000) ++ 100 :: arest n.natAbs) := by
  unfold atext atextN arest az
  simp
theorem unm_atext (n : Int) : unm (atext n) = decDigits (n.natAbs / 10000000) ++ 100 :: arest n.natAbs := by
  rw [atext_eq]
  unfold sgn
  by_cases h : n < 0
  · rw [if_pos h]; simp [unm]
  · rw [if_neg h, List.nil_append]
    obtain ⟨b, r, e, hb⟩ := dec_cons (n.natAbs / 10000000)
    rw [e]
    have : b ≠ 45 := by intro h; subst h; simp [isD] at hb
    simp [unm, this]
theorem cut_x (n : Int) : cut1 100 (unm (atext n)) = (decDigits (n.natAbs / 10000000), arest n.natAbs) := by
  rw [unm_atext]; exact cut1_append _ (not_mem_of_all (dec_isD _) isD100)
theorem cut_y (N : Nat) : cut1 109 (arest N) = (digs 2 (N % 10000000 * 36 / 6000000), az N) := by
  unfold arest; exact cut1_append _ (not_mem_of_all (digs_isD _ _) isD109)
theorem az_len (N : Nat) : (az N).length = 9 := by
  unfold az
  have h1 := digs_length 2 (N % 10000000 * 36 % 6000000 / 100000)
  have h2 := digs_length 5 (N % 10000000 * 36 % 100000)
  simp; omega
theorem az_take (N : Nat) : (az N).take 2 = digs 2 (N % 10000000 * 36 % 6000000 / 100000) := by
  unfold az
  rw [List.take_left' (digs_length 2 _)]
theorem az_drop (N : Nat) : ((az N).take 8).drop 3 = digs 5 (N % 10000000 * 36 % 100000) := by
  rw [List.drop_take]
  unfold az
  have h1 := digs_length 2 (N % 10000000 * 36 % 6000000 / 100000)
  have h2 := digs_length 5 (N % 10000000 * 36 % 100000)
  have e : (digs 2 (N % 10000000 * 36 % 6000000 / 100000) ++ 46 :: (digs 5 (N % 10000000 * 36 % 100000) ++ [115])).drop 3 = digs 5 (N % 10000000 * 36 % 100000) ++ [115] := by
    rw [show digs 2 (N % 10000000 * 36 % 6000000 / 100000) ++ 46 :: (digs 5 (N % 10000000 * 36 % 100000) ++ [115]) = (digs 2 (N % 10000000 * 36 % 6000000 / 100000) ++ [46]) ++ (digs 5 (N % 10000000 * 36 % 100000) ++ [115]) by simp]
    rw [List.drop_left' (by simp; omega)]
  rw [e, List.take_left' (by omega)]
theorem aval_ok (N : Nat) (h : N ≤ 1800000000) : aval (N / 10000000) (N % 10000000 * 36 / 6000000) (N % 10000000 * 36 % 6000000 / 100000) (N % 10000000 * 36 % 100000) = N := by
  unfold aval; omega
theorem aneg_ok (n : Int) : aneg (atext n) n.natAbs = n := by
  unfold aneg
  rw [unm_atext, atext_eq]
  unfold sgn
  by_cases h : n < 0
  · rw [if_pos h, if_pos (by simp)]; omega
  · rw [if_neg h, if_neg (by simp)]; omega
theorem afin_ok (n : Int) (h : n.natAbs ≤ 1800000000) : afin (atext n) n = (n, true) := by
  unfold afin; rw [if_pos (by omega), if_pos rfl]
theorem implA_ok (n : Int) (h : n.natAbs ≤ 1800000000) : implA (atext n) = (n, true) := by
  have hx := dec_length_le (n.natAbs / 10000000) 3 (by omega) (by show _ < 1000; omega)
  unfold implA
  simp only [cut_x, cut_y, az_len, az_take, az_drop, digs_length]
  rw [if_neg (by omega), if_neg (by simp [List.all_append, dec_isD, digs_isD]), val_dec, val_digs 2 _ 0 (by show _ < 100; omega), val_digs 2 _ 0 (by show _ < 100; omega), val_digs 5 _ 0 (by show _ < 100000; omega)]
  simp only [Nat.zero_mul, Nat.zero_add]
  rw [aval_ok _ h, aneg_ok, afin_ok n h]
theorem unm_eq_len (l : List UInt8) : (unm l = l) ↔ ¬ (unm l).length < l.length := by
  cases l with
  | nil => simp [unm]
  | cons b r =>
    unfold unm
    simp only
    split
    · constructor
      · intro h; have := congrArg List.length h; simp at this
      · intro h; simp at h
    · simp
theorem wrap_aval (d m s p : Nat) (hd : d < 1000000000) (hm : m < 1000000000) (hs : s < 1000000000) (hp : p < 1000000000) :
    wrap64 (wrap64 ((d : Int) * 10000000) + wrap64 (Int.tdiv (wrap64 (wrap64 (wrap64 ((m : Int) * 6000000) + wrap64 ((s : Int) * 100000)) + (p : Int))) 36)) = (aval d m s p : Nat) := by
  have e1 : wrap64 ((d : Int) * 10000000) = ((d * 10000000 : Nat) : Int) := by rw [wrap_small (by omega) (by omega)]; simp
  have e2 : wrap64 (wrap64 (wrap64 ((m : Int) * 6000000) + wrap64 ((s : Int) * 100000)) + (p : Int)) = ((m * 6000000 + s * 100000 + p : Nat) : Int) := by
    rw [wrap_small (x := (m : Int) * 6000000) (by omega) (by omega), wrap_small (x := (s : Int) * 100000) (by omega) (by omega), wrap_small (x := (m : Int) * 6000000 + (s : Int) * 100000) (by omega) (by omega), wrap_small (by omega) (by omega)]
    simp
  rw [e1, e2, show Int.tdiv ((m * 6000000 + s * 100000 + p : Nat) : Int) 36 = (((m * 6000000 + s * 100000 + p) / 36 : Nat) : Int) from (Int.ofNat_tdiv _ 36).symm]
  unfold aval
  rw [wrap_small (x := (((m * 6000000 + s * 100000 + p) / 36 : Nat) : Int)) (by omega) (by omega), wrap_small (by omega) (by omega)]
  simp
theorem ij1_ev (l : List UInt8) (n : Int) : Ev (fun k => impl_ReadAngle.j1 k (bs l) n) (afin l n) := by
  unfold afin
  by_cases h : -1800000000 ≤ n ∧ n ≤ 1800000000
  · rw [if_pos h]
    obtain ⟨K, hK⟩ := angleText_ev n (by omega)
    refine ev_succ K fun k hk => ?_
    have e := hK k hk
    simp only at e
    have hi : impl_within.f n (-1800000000) 1800000000 = some true := by unfold impl_within.f; rw [if_pos (by omega), decide_eq_true (by omega)]
    simp only [impl_ReadAngle.j1]
    rw [hi, Option.bind_some, if_pos rfl, e, Option.bind_some, bs_list, bs_list]
    split <;> rfl
  · rw [if_neg h]
    have hi : impl_within.f n (-1800000000) 1800000000 = some false := by
      unfold impl_within.f
      by_cases h2 : n ≥ -1800000000
      · rw [if_pos h2, decide_eq_false (by omega)]
      · rw [if_neg h2]
    refine ev_succ 0 fun k _ => ?_
    simp only [impl_ReadAngle.j1]
    rw [hi, Option.bind_some]
    simp
theorem number_f (l : List UInt8) (h : l.length ≤ 18) (hd : l.all isD = true) : impl_ReadAngle1.f (bs l) = some ((val 0 l : Nat) : Int) := by
  unfold impl_ReadAngle1.f
  rw [if_pos ⟨by rw [bs_size]; exact h, hd⟩]
theorem val9 (l : List UInt8) (h : l.all isD = true) (hl : l.length ≤ 9) : val 0 l < 1000000000 := by
  have h1 := val_lt l 0 h
  have h2 : 10 ^ l.length ≤ 10 ^ 9 := Nat.pow_le_pow_right (by omega) hl
  have h3 : (10 : Nat) ^ 9 = 1000000000 := rfl
  omega
theorem implA_ev (l : List UInt8) (hl : l.length ≤ 1048576) : Ev (fun k => impl_ReadAngle.f k (bs l)) (implA l) := by
  have u := unm_len' l
  have h1 := cut1_len' 100 (unm l)
  have h2 := cut1_len' 109 (cut1 100 (unm l)).2
  have t0 : strings_TrimPrefix.f (bs l) (bs [45]) = some (bs (unm l)) := by
    unfold strings_TrimPrefix.f
    have := trim_minus l
    simp only [this]
  have t1 : strings_Cut.f (bs (unm l)) (bs [100]) = some (bs (cut1 100 (unm l)).1, bs (cut1 100 (unm l)).2, decide (100 ∈ unm l)) := by
    unfold strings_Cut.f
    rw [if_pos (by rw [bs_size]; omega)]
    have := cut_eq 100 (unm l)
    simp only [this]
  have t2 : strings_Cut.f (bs (cut1 100 (unm l)).2) (bs [109]) = some (bs (cut1 109 (cut1 100 (unm l)).2).1, bs (cut1 109 (cut1 100 (unm l)).2).2, decide (109 ∈ (cut1 100 (unm l)).2)) := by
    unfold strings_Cut.f
    rw [if_pos (by rw [bs_size]; omega)]
    have := cut_eq 109 (cut1 100 (unm l)).2
    simp only [this]
  unfold implA
  simp only
  generalize hx : (cut1 100 (unm l)).1 = x at *
  generalize hw : (cut1 100 (unm l)).2 = w at *
  generalize hy : (cut1 109 w).1 = y at *
  generalize hz : (cut1 109 w).2 = z at *
  have hf : ∀ k, impl_ReadAngle.f k (bs l) = if (x.length : Int) > 3 then impl_ReadAngle.j0 k (bs l) (bs (unm l)) (bs x) (bs y) (bs z) true else (if (y.length : Int) = 2 then impl_ReadAngle.j0 k (bs l) (bs (unm l)) (bs x) (bs y) (bs z) ((z.length : Int) != 9) else impl_ReadAngle.j0 k (bs l) (bs (unm l)) (bs x) (bs y) (bs z) true) := fun k => by
    unfold impl_ReadAngle.f
    rw [show (⟨#[45]⟩ : ByteArray) = bs [45] from rfl, t0, Option.bind_some, show (⟨#[100]⟩ : ByteArray) = bs [100] from rfl, t1, Option.bind_some]
    simp only
    rw [show (⟨#[109]⟩ : ByteArray) = bs [109] from rfl, t2, Option.bind_some]
    simp only [bs_size]
  have hT : ∀ k, impl_ReadAngle.j0 (k + 1) (bs l) (bs (unm l)) (bs x) (bs y) (bs z) true = some (0, false) := fun k => by
    simp only [impl_ReadAngle.j0]
    rw [if_pos trivial]
  refine Ev.congr hf ?_
  by_cases c : 3 < x.length ∨ y.length ≠ 2 ∨ z.length ≠ 9
  · rw [if_pos c]
    refine ev_of_all fun k => ?_
    by_cases d1 : (x.length : Int) > 3
    · rw [if_pos d1, hT]
    · rw [if_neg d1]
      by_cases d2 : (y.length : Int) = 2
      · rw [if_pos d2]
        have : ((z.length : Int) != 9) = true := bne_iff_ne.2 (by omega)
        rw [this, hT]
      · rw [if_neg d2, hT]
  · rw [if_neg c]
    have cx : x.length ≤ 3 := by omega
    have cy : y.length = 2 := by omega
    have cz : z.length = 9 := by omega
    have hzf : ((z.length : Int) != 9) = false := by rw [cz]; rfl
    have l2 : (z.take 2).length = 2 := by rw [List.length_take]; omega
    have l3 : ((z.take 8).drop 3).length = 5 := by rw [List.length_drop, List.length_take]; omega
    refine Ev.congr (f := fun k => impl_ReadAngle.j0 k (bs l) (bs (unm l)) (bs x) (bs y) (bs z) false) (fun k => by rw [if_neg (by omega), if_pos (by omega), hzf]) ?_
    have x2 : (bs z).extract 0 2 = bs (z.take 2) := by rw [bs_extract]; rfl
    have x3 : (bs z).extract 3 8 = bs ((z.take 8).drop 3) := bs_extract _ _ _
    have tr : strings_Trim.f (bs (x ++ y ++ z.take 2 ++ (z.take 8).drop 3)) (⟨#[48, 49, 50, 51, 52, 53, 54, 55, 56, 57]⟩ : ByteArray) = some (bs (trimS (x ++ y ++ z.take 2 ++ (z.take 8).drop 3) digs10)) := by
      unfold strings_Trim.f
      rw [if_pos ⟨by rw [bs_size]; simp only [List.length_append]; omega, by decide, by decide⟩]
      rfl
    by_cases dd : (x ++ y ++ z.take 2 ++ (z.take 8).drop 3).all isD = true
    · rw [if_neg (fun h => h dd)]
      have dd' := dd
      simp only [List.all_append, Bool.and_eq_true] at dd'
      obtain ⟨⟨⟨dx, dy⟩, d2⟩, d3⟩ := dd'
      have hw := wrap_aval (val 0 x) (val 0 y) (val 0 (z.take 2)) (val 0 ((z.take 8).drop 3)) (val9 x dx (by omega)) (val9 y dy (by omega)) (val9 _ d2 (by omega)) (val9 _ d3 (by omega))
      have hb : aval (val 0 x) (val 0 y) (val 0 (z.take 2)) (val 0 ((z.take 8).drop 3)) ≤ 100000000000000000 := by
        have := val9 x dx (by omega)
        have := val9 y dy (by omega)
        have := val9 _ d2 (by omega)
        have := val9 _ d3 (by omega)
        unfold aval; omega
      obtain ⟨K, hK⟩ := ij1_ev l (aneg l (aval (val 0 x) (val 0 y) (val 0 (z.take 2)) (val 0 ((z.take 8).drop 3))))
      refine ev_succ K fun k hk => ?_
      have e := hK k hk
      simp only at e
      simp only [impl_ReadAngle.j0, x2, x3, bs_append]
      rw [if_neg (by simp), if_pos (fits_ (by omega)), if_pos (by omega), if_pos (by rw [bs_size]; omega), if_pos (fits_ (by simp only [List.length_append]; omega)), if_pos (by omega), if_pos (by rw [bs_size]; omega), if_pos (fits_ (by simp only [List.length_append]; omega)), tr, Option.bind_some, if_pos (by rw [bs_list]; exact (trimS_nil _).2 dd)]
      rw [number_f y (by omega) dy, Option.bind_some, number_f _ (by omega) d2, Option.bind_some, number_f _ (by omega) d3, Option.bind_some, number_f x (by omega) dx, Option.bind_some, hw, bs_list, bs_list]
      unfold aneg at e
      by_cases hs : (unm l).length < l.length
      · rw [if_pos hs] at e
        rw [if_neg (fun h => (unm_eq_len l).1 h hs), wrap_small (by omega) (by omega)]
        unfold aneg
        rw [if_pos hs]
        exact e
      · rw [if_neg hs] at e
        rw [if_pos ((unm_eq_len l).2 hs)]
        unfold aneg
        rw [if_neg hs]
        exact e
    · rw [if_pos dd]
      refine ev_of_all fun k => ?_
      simp only [impl_ReadAngle.j0, x2, x3, bs_append]
      rw [if_neg (by simp), if_pos (fits_ (by omega)), if_pos (by omega), if_pos (by rw [bs_size]; omega), if_pos (fits_ (by simp only [List.length_append]; omega)), if_pos (by omega), if_pos (by rw [bs_size]; omega), if_pos (fits_ (by simp only [List.length_append]; omega)), tr, Option.bind_some, if_neg (by rw [bs_list]; exact fun h => dd ((trimS_nil _).1 h))]
end Go.Proofs.YtogpbandlpjccaaGreatDoor.TX
