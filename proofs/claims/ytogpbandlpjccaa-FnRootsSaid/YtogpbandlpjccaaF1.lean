/- What encloses the intervals that the program reckons with, when these lie in wider ones. -/
import Derived.Test.YtogpbandlpjccaaPC
set_option linter.unusedVariables false
set_option linter.unusedSimpArgs false
namespace Go.G880.Rt
open Go Go.RX Go.G880 Go.G880.Nw
def ile (a b : Int) : Bool := Int.casesOn a (fun m => Int.casesOn b (fun n => Nat.ble m n) (fun _ => false)) (fun m => Int.casesOn b (fun _ => true) (fun n => Nat.ble n m))
theorem qg8 (a b : Int) : ile a b = true ↔ a ≤ b := by
 cases a with
 | ofNat m => cases b with
  | ofNat n => simp only [ile]; rw [Nat.ble_eq]; simp only [Int.ofNat_eq_natCast]; omega
  | negSucc n => exact ⟨fun h => by simp [ile] at h, fun h => by simp only [Int.ofNat_eq_natCast] at h; omega⟩
 | negSucc m => cases b with
  | ofNat n => exact ⟨fun h => by simp only [Int.ofNat_eq_natCast]; omega, fun h => rfl⟩
  | negSucc n => simp only [ile]; rw [Nat.ble_eq]; omega
def isz (a : Int) : Bool := Int.casesOn a (fun m => Nat.beq m 0) (fun _ => false)
theorem isz_iff (a : Int) : isz a = true ↔ a = 0 := by
 cases a with
 | ofNat m => simp only [isz]; rw [Nat.beq_eq]; simp only [Int.ofNat_eq_natCast]; omega
 | negSucc m => simp only [isz]; constructor <;> intro h <;> cases h
def hok (a : Iv) : Bool := ile (Int.negSucc 1152921504606846974) a.lo && ile a.lo a.hi && ile a.hi (Int.ofNat 1152921504606846975)
theorem hok_iff (a : Iv) : hok a = true ↔ -1152921504606846976 < a.lo ∧ a.lo ≤ a.hi ∧ a.hi < 1152921504606846976 := by
 simp only [hok, Bool.and_eq_true, qg8, Int.ofNat_eq_natCast]
 omega
theorem hok_eq (a : Iv) : hok a = qaF a := by
 rw [Bool.eq_iff_iff, hok_iff, qcM]
def qf9 : Iv := ⟨-1152921504606846976, 1152921504606846976⟩
theorem hwhole_not : hok qf9 = false := by decide
def hmk (a b : Int) : Iv := bif hok ⟨a, b⟩ then ⟨a, b⟩ else qf9
theorem hmk_ok {a b : Int} (h : hok (hmk a b) = true) : hmk a b = ⟨a, b⟩ ∧ hok ⟨a, b⟩ = true := by
 cases k : hok ⟨a, b⟩
 ·simp only [hmk, k, cond_false, hwhole_not] at h; cases h
 ·simp only [hmk, k, cond_true, and_self]
def hadd (a b : Iv) : Iv := bif hok a && hok b then hmk (Int.add a.lo b.lo) (Int.add a.hi b.hi) else qf9
def hsub (a b : Iv) : Iv := bif hok a && hok b then hmk (Int.sub a.lo b.hi) (Int.sub a.hi b.lo) else qf9
def hmn (a b : Int) : Int := bif ile a b then a else b
def hmx (a b : Int) : Int := bif ile a b then b else a
def hmul (a b : Iv) : Iv := bif hok a && hok b then
 hmk (Int.ediv (hmn (hmn (Int.mul a.lo b.lo) (Int.mul a.lo b.hi)) (hmn (Int.mul a.hi b.lo) (Int.mul a.hi b.hi))) (Int.ofNat 4294967296))
  (Int.neg (Int.ediv (Int.neg (hmx (hmx (Int.mul a.lo b.lo) (Int.mul a.lo b.hi)) (hmx (Int.mul a.hi b.lo) (Int.mul a.hi b.hi)))) (Int.ofNat 4294967296))) else qf9
def Inc (A H : Iv) : Prop := hok H = true → qaF A = true ∧ H.lo ≤ A.lo ∧ A.hi ≤ H.hi
theorem hmn_le (a b : Int) : hmn a b ≤ a ∧ hmn a b ≤ b := by
 cases h : ile a b
 ·have := mt (qg8 a b).2 (by rw [h]; simp)
  simp only [hmn, h, cond_false]; omega
 ·have := (qg8 a b).1 h
  simp only [hmn, h, cond_true]; omega
theorem le_hmx (a b : Int) : a ≤ hmx a b ∧ b ≤ hmx a b := by
 cases h : ile a b
 ·have := mt (qg8 a b).2 (by rw [h]; simp)
  simp only [hmx, h, cond_false]; omega
 ·have := (qg8 a b).1 h
  simp only [hmx, h, cond_true]; omega
theorem qiL (n m : Int) (A : Iv) (h : hok ⟨n, m⟩ = true → A = ⟨n, m⟩) : Inc A ⟨n, m⟩ := fun k => by
 rw [h k, ← hok_eq]; exact ⟨k, Int.le_refl _, Int.le_refl _⟩
theorem both {a b : Iv} {x : Iv} (h : hok (bif hok a && hok b then x else qf9) = true) : hok a = true ∧ hok b = true := by
 cases ka : hok a <;> cases kb : hok b <;> simp only [ka, kb, Bool.and_self, Bool.and_false, Bool.and_true, cond_false, hwhole_not] at h <;> first | cases h | trivial
theorem inc_add {A B H K : Iv} (ha : Inc A H) (hb : Inc B K) : Inc (qdZ A B) (hadd H K) := by
 intro h
 obtain ⟨kh, kk⟩ := both h
 simp only [hadd, kh, kk, Bool.and_self, cond_true] at h ⊢
 obtain ⟨e, o⟩ := hmk_ok h
 rw [e]
 obtain ⟨a0, a1, a2⟩ := ha kh
 obtain ⟨b0, b1, b2⟩ := hb kk
 have ia := (qcM _).1 a0
 have ib := (qcM _).1 b0
 have io : -1152921504606846976 < H.lo + K.lo ∧ H.lo + K.lo ≤ H.hi + K.hi ∧ H.hi + K.hi < 1152921504606846976 := (hok_iff _).1 o
 have e2 : qdZ A B = ⟨A.lo + B.lo, A.hi + B.hi⟩ := by
  simp only [qdZ, a0, b0, Bool.not_true, cond_false]
  rw [qc2 (by omega) (by omega), qc2 (by omega) (by omega), qg6 (by omega)]
 rw [e2, qcM]
 have t1 : Int.add H.lo K.lo = H.lo + K.lo := rfl
 have t2 : Int.add H.hi K.hi = H.hi + K.hi := rfl
 simp only [t1, t2]
 omega
theorem inc_sub {A B H K : Iv} (ha : Inc A H) (hb : Inc B K) : Inc (qcZ A B) (hsub H K) := by
 intro h
 obtain ⟨kh, kk⟩ := both h
 simp only [hsub, kh, kk, Bool.and_self, cond_true] at h ⊢
 obtain ⟨e, o⟩ := hmk_ok h
 rw [e]
 obtain ⟨a0, a1, a2⟩ := ha kh
 obtain ⟨b0, b1, b2⟩ := hb kk
 have ia := (qcM _).1 a0
 have ib := (qcM _).1 b0
 have io : -1152921504606846976 < H.lo - K.hi ∧ H.lo - K.hi ≤ H.hi - K.lo ∧ H.hi - K.lo < 1152921504606846976 := (hok_iff _).1 o
 have e2 : qcZ A B = ⟨A.lo - B.hi, A.hi - B.lo⟩ := by
  simp only [qcZ, a0, b0, Bool.not_true, cond_false]
  rw [qc2 (by omega) (by omega), qc2 (by omega) (by omega), qg6 (by omega)]
 rw [e2, qcM]
 have t1 : Int.sub H.lo K.hi = H.lo - K.hi := rfl
 have t2 : Int.sub H.hi K.lo = H.hi - K.lo := rfl
 simp only [t1, t2]
 omega
theorem qgC {a b : Int} (ha : qa2 a = true) (hb : qa2 b = true) (h : -1152921504606846976 ≤ a * b / 4294967296 ∧ a * b / 4294967296 ≤ 1152921504606846976) : qa4 a b = (a * b / 4294967296, true) := by
 simp only [qa4, ha, hb, Bool.not_true, cond_false]
 have pr := qgT (qeG ha) (qeG hb)
 have hr : qbT 32 0 126 = true := by decide
 simp only [qeS, hr, Bool.not_true, cond_false, qgV (qeG ha) (qeG hb), (Shift32 pr.1 pr.2).2]
 have hq := quot_range (z := a * b) (d := 4294967296) pr (by omega)
 rw [qiW hq.1 hq.2, if_pos (by omega)]
 simp only [qdE, (qeF _).2 h, Bool.not_true, cond_false]
theorem qiY {a b : Int} (ha : qa2 a = true) (hb : qa2 b = true) (h : -1152921504606846976 ≤ -(a * b) / 4294967296 ∧ -(a * b) / 4294967296 ≤ 1152921504606846976) : qbU a b = (-(-(a * b) / 4294967296), true) := by
 have e : -a * b = -(a * b) := Int.neg_mul a b
 have hd := qgC (qfJ ha).2 hb (by rw [e]; exact h)
 rw [e] at hd
 simp only [qbU, (qfJ ha).1, ha, hd, Bool.not_true, cond_false]
 rw [(qfJ ((qeF _).2 h)).1]
theorem fix_ok {A : Iv} (h : qaF A = true) : qa2 A.lo = true ∧ qa2 A.hi = true := by
 have := (qcM _).1 h
 exact ⟨(qeF _).2 (by omega), (qeF _).2 (by omega)⟩
theorem bilI_lo {x1 x2 y1 y2 a b L : Int} (h1 : x1 ≤ a) (h2 : a ≤ x2) (h3 : y1 ≤ b) (h4 : b ≤ y2) (p1 : L ≤ x1 * y1) (p2 : L ≤ x1 * y2) (p3 : L ≤ x2 * y1) (p4 : L ≤ x2 * y2) : L ≤ a * b := by
 have := bil_lo (cst h1) (cst h2) (cst h3) (cst h4) (L := (L : Rat)) (by exact_mod_cast cst p1) (by exact_mod_cast cst p2) (by exact_mod_cast cst p3) (by exact_mod_cast cst p4)
 exact_mod_cast this
theorem bilI_hi {x1 x2 y1 y2 a b L : Int} (h1 : x1 ≤ a) (h2 : a ≤ x2) (h3 : y1 ≤ b) (h4 : b ≤ y2) (p1 : x1 * y1 ≤ L) (p2 : x1 * y2 ≤ L) (p3 : x2 * y1 ≤ L) (p4 : x2 * y2 ≤ L) : a * b ≤ L := by
 have := bil_hi (cst h1) (cst h2) (cst h3) (cst h4) (L := (L : Rat)) (by exact_mod_cast cst p1) (by exact_mod_cast cst p2) (by exact_mod_cast cst p3) (by exact_mod_cast cst p4)
 exact_mod_cast this
theorem min_eq (a b : Int) : qa5 a b = if a < b then a else b := by
 simp only [qa5, Bool.cond_eq_ite, decide_eq_true_eq]
theorem max_eq (a b : Int) : qbC a b = if a > b then a else b := by
 simp only [qbC, Bool.cond_eq_ite, decide_eq_true_eq]
theorem inc_mul {A B H K : Iv} (ha : Inc A H) (hb : Inc B K) : Inc (qdQ A B) (hmul H K) := by
 intro h
 obtain ⟨kh, kk⟩ := both h
 simp only [hmul, kh, kk, Bool.and_self, cond_true] at h ⊢
 obtain ⟨e, o⟩ := hmk_ok h
 rw [e]
 obtain ⟨a0, a1, a2⟩ := ha kh
 obtain ⟨b0, b1, b2⟩ := hb kk
 have ia := (qcM _).1 a0
 have ib := (qcM _).1 b0
 have io := (hok_iff _).1 o
 generalize hL : hmn (hmn (Int.mul H.lo K.lo) (Int.mul H.lo K.hi)) (hmn (Int.mul H.hi K.lo) (Int.mul H.hi K.hi)) = L at *
 generalize hM : hmx (hmx (Int.mul H.lo K.lo) (Int.mul H.lo K.hi)) (hmx (Int.mul H.hi K.lo) (Int.mul H.hi K.hi)) = M at *
 have t1 : Int.ediv L (Int.ofNat 4294967296) = L / 4294967296 := rfl
 have t2 : Int.neg (Int.ediv (Int.neg M) (Int.ofNat 4294967296)) = -(-M / 4294967296) := rfl
 simp only [t1, t2] at io ⊢
 have l1 := hmn_le (Int.mul H.lo K.lo) (Int.mul H.lo K.hi)
 have l2 := hmn_le (Int.mul H.hi K.lo) (Int.mul H.hi K.hi)
 have l3 := hmn_le (hmn (Int.mul H.lo K.lo) (Int.mul H.lo K.hi)) (hmn (Int.mul H.hi K.lo) (Int.mul H.hi K.hi))
 have g1 := le_hmx (Int.mul H.lo K.lo) (Int.mul H.lo K.hi)
 have g2 := le_hmx (Int.mul H.hi K.lo) (Int.mul H.hi K.hi)
 have g3 := le_hmx (hmx (Int.mul H.lo K.lo) (Int.mul H.lo K.hi)) (hmx (Int.mul H.hi K.lo) (Int.mul H.hi K.hi))
 rw [hL] at l3
 rw [hM] at g3
 have c1 : Int.mul H.lo K.lo = H.lo * K.lo := rfl
 have c2 : Int.mul H.lo K.hi = H.lo * K.hi := rfl
 have c3 : Int.mul H.hi K.lo = H.hi * K.lo := rfl
 have c4 : Int.mul H.hi K.hi = H.hi * K.hi := rfl
 rw [c1, c2, c3, c4] at l3 g3
 rw [c1, c2] at l1 g1
 rw [c3, c4] at l2 g2
 have p : ∀ a b : Int, A.lo ≤ a → a ≤ A.hi → B.lo ≤ b → b ≤ B.hi → L ≤ a * b ∧ a * b ≤ M := fun a b q1 q2 q3 q4 =>
  ⟨bilI_lo (x1 := H.lo) (x2 := H.hi) (y1 := K.lo) (y2 := K.hi) (by omega) (by omega) (by omega) (by omega) (by omega) (by omega) (by omega) (by omega),
   bilI_hi (x1 := H.lo) (x2 := H.hi) (y1 := K.lo) (y2 := K.hi) (by omega) (by omega) (by omega) (by omega) (by omega) (by omega) (by omega) (by omega)⟩
 have p1 := p A.lo B.lo (by omega) (by omega) (by omega) (by omega)
 have p2 := p A.lo B.hi (by omega) (by omega) (by omega) (by omega)
 have p3 := p A.hi B.lo (by omega) (by omega) (by omega) (by omega)
 have p4 := p A.hi B.hi (by omega) (by omega) (by omega) (by omega)
 obtain ⟨f1, f2⟩ := fix_ok a0
 obtain ⟨f3, f4⟩ := fix_ok b0
 generalize hz1 : A.lo * B.lo = z1 at *
 generalize hz2 : A.lo * B.hi = z2 at *
 generalize hz3 : A.hi * B.lo = z3 at *
 generalize hz4 : A.hi * B.hi = z4 at *
 have d1 := qgC f1 f3 (by rw [hz1]; omega)
 have d2 := qgC f1 f4 (by rw [hz2]; omega)
 have d3 := qgC f2 f3 (by rw [hz3]; omega)
 have d4 := qgC f2 f4 (by rw [hz4]; omega)
 have u1 := qiY f1 f3 (by rw [hz1]; omega)
 have u2 := qiY f1 f4 (by rw [hz2]; omega)
 have u3 := qiY f2 f3 (by rw [hz3]; omega)
 have u4 := qiY f2 f4 (by rw [hz4]; omega)
 rw [hz1] at d1 u1
 rw [hz2] at d2 u2
 rw [hz3] at d3 u3
 rw [hz4] at d4 u4
 simp only [qdQ, a0, b0, d1, d2, d3, d4, u1, u2, u3, u4, Bool.not_true, cond_false, min_eq, max_eq]
 generalize hlo : (if (if (if (if (1152921504606846976 : Int) < z1 / 4294967296 then 1152921504606846976 else z1 / 4294967296) < z2 / 4294967296 then _ else _) < z3 / 4294967296 then _ else _) < z4 / 4294967296 then _ else _) = lo
 generalize hhi : (if (if (if (if (-1152921504606846976 : Int) > -(-z1 / 4294967296) then -1152921504606846976 else -(-z1 / 4294967296)) > -(-z2 / 4294967296) then _ else _) > -(-z3 / 4294967296) then _ else _) > -(-z4 / 4294967296) then _ else _) = hi
 have w1 : L / 4294967296 ≤ lo ∧ lo ≤ z1 / 4294967296 := by
  rw [← hlo]; clear hlo hhi; repeat' split
  all_goals omega
 have w2 : z1 / 4294967296 ≤ hi ∧ hi ≤ -(-M / 4294967296) := by
  rw [← hhi]; clear hlo hhi; repeat' split
  all_goals omega
 rw [qg6 (by omega), qcM]
 simp only
 omega
def hsgn (a : Iv) : Int := bif hok a then (bif ile (Int.ofNat 1) a.lo then 1 else bif ile a.hi (Int.negSucc 0) then (-1) else 0) else 0
theorem qhX (H : Iv) : (hsgn H = 1 ∧ hok H = true ∧ 0 < H.lo) ∨ (hsgn H = -1 ∧ hok H = true ∧ H.hi < 0) ∨ hsgn H = 0 := by
 cases k : hok H
 ·exact .inr (.inr (by simp only [hsgn, k, cond_false]))
 cases k1 : ile (Int.ofNat 1) H.lo
 ·cases k2 : ile H.hi (Int.negSucc 0)
  ·exact .inr (.inr (by simp only [hsgn, k, k1, k2, cond_true, cond_false]))
  ·have := (qg8 _ _).1 k2
   exact .inr (.inl ⟨by simp only [hsgn, k, k1, k2, cond_true, cond_false], rfl, by omega⟩)
 ·have := (qg8 _ _).1 k1
  exact .inl ⟨by simp only [hsgn, k, k1, cond_true], rfl, by simp at this; omega⟩
theorem sign_pos_of {A : Iv} (h : qaF A = true) (h1 : 0 < A.lo) : qb1 A = 1 := by
 simp only [qb1, h, Bool.not_true, cond_false, decide_eq_true (show A.lo > 0 from h1), cond_true]
theorem sign_neg_of {A : Iv} (h : qaF A = true) (h1 : A.hi < 0) : qb1 A = -1 := by
 have := (qcM _).1 h
 simp only [qb1, h, Bool.not_true, cond_false, decide_eq_true h1, decide_eq_false (show ¬ A.lo > 0 by omega), cond_true]
theorem inc_sign {A H : Iv} (h : Inc A H) (hs : hsgn H ≠ 0) : qb1 A = hsgn H := by
 rcases qhX H with ⟨e, k, hp⟩ | ⟨e, k, hp⟩ | e
 ·obtain ⟨q0, q1, q2⟩ := h k
  rw [e, sign_pos_of q0 (by omega)]
 ·obtain ⟨q0, q1, q2⟩ := h k
  rw [e, sign_neg_of q0 (by omega)]
 ·exact absurd e hs
end Go.G880.Rt
/- Values of polynomials on wider intervals; a bound on how many pieces a search for roots comes to. -/
set_option linter.unusedVariables false
set_option linter.unusedSimpArgs false
namespace Go.G880.Rt
open Go Go.RX Go.G880 Go.G880.Nw
def hor (x : Iv) : List Iv → Iv
 | [] => ⟨0, 0⟩
 | c :: r => hor.go x c r
where go (x : Iv) (c : Iv) : List Iv → Iv
 | [] => c
 | d :: r => hadd (hmul (hor.go x d r) x) c
theorem hor_cons (x c d : Iv) (r : List Iv) : hor x (c :: d :: r) = hadd (hmul (hor x (d :: r)) x) c := rfl
theorem at_inc_loop (l : List Value) (hs : List Iv) (X H : Iv) (hx : Inc X H) (hl : hs.length = l.length) (hc : ∀ k, k < l.length → Inc (atIv l false (k : Int)) (hs.getD k qf9)) :
  ∀ (d f : Nat) (pl ph : Int), d < f → d < l.length → d ≤ 2000000 → Inc ⟨pl, ph⟩ (hor H (hs.drop d)) →
  Inc ⟨(qd5 (fun v : Int × Int × Int => qaP.rnd3 l X.lo X.hi v.1 v.2.1 v.2.2) f ((d : Int) - 1, pl, ph)).2.1, (qd5 (fun v : Int × Int × Int => qaP.rnd3 l X.lo X.hi v.1 v.2.1 v.2.2) f ((d : Int) - 1, pl, ph)).2.2⟩ (hor H hs) := by
 intro d
 induction d with
 | zero =>
  intro f pl ph hf _ _ hp
  obtain ⟨f, rfl⟩ : ∃ m, f = m + 1 := ⟨f - 1, by omega⟩
  rw [qd5]
  have h1 : decide (((0 : Nat) : Int) - 1 ≥ 0) = false := decide_eq_false (by omega)
  simp only [qaP.rnd3, h1, cond_false]
  exact hp
 | succ d ih =>
  intro f pl ph hf hd hd2 hp
  obtain ⟨f, rfl⟩ : ∃ m, f = m + 1 := ⟨f - 1, by omega⟩
  rw [qd5]
  have h1 : decide (((d + 1 : Nat) : Int) - 1 ≥ 0) = true := decide_eq_true (by omega)
  have h2 : ((d + 1 : Nat) : Int) - 1 = (d : Int) := by omega
  have h3 : w64 ((d : Int) - 1) = (d : Int) - 1 := qc2 (by omega) (by omega)
  rw [h2] at h1
  simp only [qaP.rnd3, h2, h1, cond_true, h3]
  refine ih f _ _ (by omega) (by omega) (by omega) ?_
  have e : hs.drop d = hs.getD d qf9 :: hs.drop (d + 1) := by
   rw [List.drop_eq_getElem_cons (by omega)]
   simp [List.getD, show d < hs.length by omega]
  have e2 : hs.drop (d + 1) = hs[d + 1] :: hs.drop (d + 2) := List.drop_eq_getElem_cons (by omega)
  have hx' : Inc ⟨X.lo, X.hi⟩ H := hx
  have := inc_add (inc_mul hp hx') (hc d (by omega))
  rw [e, e2, hor_cons, ← e2]
  exact this
theorem at_inc (l : List Value) (hs : List Iv) (X H : Iv) (hx : Inc X H) (hl : hs.length = l.length) (h1 : 1 ≤ l.length ∧ l.length ≤ 1048576) (hc : ∀ k, k < l.length → Inc (atIv l false (k : Int)) (hs.getD k qf9)) :
  Inc (qaP l X) (hor H hs) := by
 have w1 : w64 ((l.length : Int) - 1) = ((l.length - 1 : Nat) : Int) := by rw [qc2 (by omega) (by omega)]; omega
 have w2 : w64 ((l.length : Int) - 2) = ((l.length - 1 : Nat) : Int) - 1 := by rw [qc2 (by omega) (by omega)]; omega
 simp only [qaP, qaP.fin3, w1, w2]
 refine at_inc_loop l hs X H hx hl hc (l.length - 1) 1048577 _ _ (by omega) (by omega) (by omega) ?_
 have e : hs.drop (l.length - 1) = [hs.getD (l.length - 1) qf9] := by
  rw [List.drop_eq_getElem_cons (by omega), List.drop_eq_nil_of_le (by omega)]
  simp [List.getD, show l.length - 1 < hs.length by omega]
 rw [e]
 exact hc (l.length - 1) (by omega)
def mulc (r : Int) (p : List Int) : List Int := List.zipWith (fun a b => a - r * b) (0 :: p) (p ++ [0])
def qeC (rs : List Int) : List Int := rs.foldl (fun p r => mulc r p) [1]
def pt (c : Int) : Iv := ⟨c * 4294967296, c * 4294967296⟩
def hderF (i : Int) : List Iv → List Iv
 | [] => []
 | c :: t => hmul (pt i) c :: hderF (i + 1) t
def hder (hs : List Iv) : List Iv := hderF 1 hs.tail
def hmid (a b : Int) : Int := Int.ediv (Int.add a b) (Int.ofNat 2)
def rl (p d : List Iv) (L H : Iv) : Bool :=
 !isz (hsgn (hadd (hor ⟨hmid L.lo H.lo, hmid L.hi H.hi⟩ p) (hmul (hor ⟨L.lo, H.hi⟩ d) (hsub ⟨L.lo, H.hi⟩ ⟨hmid L.lo H.lo, hmid L.hi H.hi⟩))))
def un (p d : List Iv) (L H : Iv) : Bool := !isz (hsgn (hor ⟨L.lo, H.hi⟩ d)) && isz (Int.add (Int.mul (hsgn (hor L p)) (hsgn (hor H p))) (Int.ofNat 1))
def hb (p d : List Iv) : Nat → Iv → Iv → Nat
 | 0, L, H => bif rl p d L H then 0 else 1
 | k + 1, L, H => bif Nat.ble k 3 && rl p d L H then 0 else bif Nat.ble k 3 && un p d L H then 1 else
  Nat.max 1 (Nat.add (hb p d k L ⟨hmid L.lo H.lo, hmid L.hi H.hi⟩) (hb p d k ⟨hmid L.lo H.lo, hmid L.hi H.hi⟩ H))
def subs : List Int → List (List Int)
 | [] => [[]]
 | a :: t => (subs t).map (a :: ·) ++ subs t
def good (rs : List Int) : Bool :=
 Nat.ble (hb ((qeC rs).map pt) (hder ((qeC rs).map pt)) 8 ⟨-23622320128, -23622320128⟩ ⟨21474836480, 21474836579⟩) 40
end Go.G880.Rt
/- Roots of polynomials in intervals: none, exactly one, kept by bisection and by Newton's method. -/
set_option linter.unusedVariables false
set_option linter.unusedSimpArgs false
namespace Go.G880.Rt
open Go Go.RX Go.G880 Go.G880.Nw Go.Newton
structure Pol (l : List Value) : Prop where
 len : 1 ≤ l.length ∧ l.length ≤ 17
 ok : qbK l = true
 der : ((qaI l).2 == 0) = true
abbrev pp (l : List Value) : List Rat := pol (coef l) 0 l.length
abbrev sl (l : List Value) : List Value := List.reverse (qaI l).1
theorem sign_zero {X : Iv} (h : HasW X 0) : qb1 X = 0 := by
 rcases qgA X with e | e | e
 ·exact e
 ·obtain ⟨k, p⟩ := sign_pos e
  have := (qiO (h k)).1
  have q := qh2 (a := X.lo) (b := 0) (by rw [fx0]; exact this)
  omega
 ·obtain ⟨k, p⟩ := sign_neg e
  have := (qiO (h k)).2
  have q := qh2 (a := 0) (b := X.hi) (by rw [fx0]; exact this)
  omega
theorem in_fx {x : Iv} {n : Int} (h : x.lo ≤ n ∧ n ≤ x.hi) : has x (fx n) := fx_has (qfS h.1) (qfS h.2)
variable {l : List Value}
theorem slope_in (hP : Pol l) {x : Iv} (hS : qaF (qaP (sl l) x) = true) : ∀ u, fx x.lo ≤ u → u ≤ fx x.hi → fx (qaP (sl l) x).lo ≤ dv (pp l) u ∧ dv (pp l) u ≤ fx (qaP (sl l) x).hi := by
 intro u u1 u2
 exact qiO (slopeW l (coef l) x u (fun _ => fx_has u1 u2) hP.len (coefW l) hP.der hS)
theorem mean_has (hP : Pol l) {x : Iv} {m n : Int} (hm : x.lo ≤ m ∧ m ≤ x.hi) (hn : x.lo ≤ n ∧ n ≤ x.hi) :
  HasW (qdZ (qaP l ⟨m, m⟩) (qdQ (qaP (sl l) x) (qcZ x ⟨m, m⟩))) (evp (pp l) (fx n)) := by
 intro hk
 obtain ⟨k1, k2⟩ := AddI_ok hk
 obtain ⟨k3, k4⟩ := MulI_ok2 k2
 obtain ⟨k5, k6⟩ := SubI_ok2 k4
 have hv := atW l (coef l) ⟨m, m⟩ (fx m) (fun _ => has_pt) ⟨hP.len.1, by have := hP.len.2; omega⟩ (coefW l)
 have hs := slope_in hP k3
 have hd : HasW (qcZ x ⟨m, m⟩) (fx n - fx m) := fun h => SubI_has (in_fx hn) has_pt h
 have key : ∃ c, has (qaP (sl l) x) c ∧ evp (pp l) (fx n) = evp (pp l) (fx m) + c * (fx n - fx m) := by
  by_cases e : n = m
  ·subst e
   exact ⟨fx (qaP (sl l) x).lo, has_lo k3, by grind⟩
  have hne : fx n - fx m ≠ 0 := fun h => e (Int.le_antisymm (qh2 (by grind)) (qh2 (by grind)))
  refine ⟨(evp (pp l) (fx n) - evp (pp l) (fx m)) * (fx n - fx m)⁻¹, ?_, ?_⟩
  ·generalize hc : (evp (pp l) (fx n) - evp (pp l) (fx m)) * (fx n - fx m)⁻¹ = c
   have e2 : c * (fx n - fx m) = evp (pp l) (fx n) - evp (pp l) (fx m) := by
    rw [← hc, Rat.mul_assoc, Rat.inv_mul_cancel _ hne, Rat.mul_one]
   rcases Int.le_total m n with q | q
   ·have a1 := mean_lo (pp l) (fx x.lo) (fx x.hi) _ (fun u g1 g2 => (hs u g1 g2).1) (fx m) (fx n) (qfS hm.1) (qfS q) (qfS hn.2)
    have a2 := mean_hi (pp l) (fx x.lo) (fx x.hi) _ (fun u g1 g2 => (hs u g1 g2).2) (fx m) (fx n) (qfS hm.1) (qfS q) (qfS hn.2)
    have pos : 0 < fx n - fx m := by have := qfS q; grind
    rw [← e2] at a1 a2
    rw [Rat.mul_comm _ (fx n - fx m), Rat.mul_comm _ (fx n - fx m)] at a1 a2
    exact fx_has (qdL pos a1) (qdL pos a2)
   ·have a1 := mean_lo (pp l) (fx x.lo) (fx x.hi) _ (fun u g1 g2 => (hs u g1 g2).1) (fx n) (fx m) (qfS hn.1) (qfS q) (qfS hm.2)
    have a2 := mean_hi (pp l) (fx x.lo) (fx x.hi) _ (fun u g1 g2 => (hs u g1 g2).2) (fx n) (fx m) (qfS hn.1) (qfS q) (qfS hm.2)
    have pos : 0 < fx m - fx n := by have := qfS q; grind
    have e3 : evp (pp l) (fx m) - evp (pp l) (fx n) = (fx m - fx n) * c := by grind
    rw [e3] at a1 a2
    rw [Rat.mul_comm _ (fx m - fx n)] at a1 a2
    exact fx_has (qdL pos a1) (qdL pos a2)
  ·rw [Rat.mul_assoc, Rat.inv_mul_cancel _ hne, Rat.mul_one]; grind
 obtain ⟨c, hc, e⟩ := key
 rw [e]
 exact AddW hv (MulW (fun _ => hc) hd) hk
theorem no_root (hP : Pol l) {x : Iv} {m n : Int} (hm : x.lo ≤ m ∧ m ≤ x.hi) (hn : x.lo ≤ n ∧ n ≤ x.hi)
  (h : qb1 (qaP l x) ≠ 0 ∨ qb1 (qdZ (qaP l ⟨m, m⟩) (qdQ (qaP (sl l) x) (qcZ x ⟨m, m⟩))) ≠ 0) : evp (pp l) (fx n) ≠ 0 := by
 intro h0
 rcases h with h | h
 ·refine h (sign_zero ?_)
  rw [← h0]
  exact atW l (coef l) x (fx n) (fun _ => in_fx hn) ⟨hP.len.1, by have := hP.len.2; omega⟩ (coefW l)
 ·refine h (sign_zero ?_)
  rw [← h0]
  exact mean_has hP hm hn
theorem uniq_parts {x : Iv} (hx : qaF x = true) (h : qb3 l x = true) : (qdJ l x == 1) = true ∧ qb1 (qaP (sl l) x) ≠ 0 := by
 simp only [qb3, hx, cond_true, qfE] at h
 cases h1 : (qaI l).2 == 0 <;> rw [h1] at h
 ·cases h
 cases h2 : qdJ l x == 1 <;> rw [h2] at h
 ·cases h
 simp only [cond_true] at h
 exact ⟨rfl, by simpa using h⟩
theorem uniq_one (hP : Pol l) {x : Iv} (hx : qaF x = true) (h : qb3 l x = true) {m n : Int} (hm : x.lo ≤ m ∧ m ≤ x.hi) (hn : x.lo ≤ n ∧ n ≤ x.hi) (zm : evp (pp l) (fx m) = 0) (zn : evp (pp l) (fx n) = 0) : m = n := by
 have hs := (uniq_parts hx h).2
 have one : ∀ a b : Int, x.lo ≤ a → b ≤ x.hi → evp (pp l) (fx a) = 0 → evp (pp l) (fx b) = 0 → ¬ a < b := by
  intro a b ha hb za zb hab
  have pos : fx a < fx b := by
   have := qfS (Int.le_of_lt hab)
   have ne : fx a ≠ fx b := fun e => by have := qh2 (a := b) (b := a) (by rw [e]; exact Rat.le_refl); omega
   grind
  rcases qgA (qaP (sl l) x) with e | e | e
  ·exact hs e
  ·obtain ⟨k, p⟩ := sign_pos e
   have a1 := mean_lo (pp l) (fx x.lo) (fx x.hi) _ (fun u g1 g2 => (slope_in hP k u g1 g2).1) (fx a) (fx b) (qfS ha) (by grind) (qfS hb)
   rw [za, zb] at a1
   have p' : 0 < fx (qaP (sl l) x).lo := by
    have : ¬ fx (qaP (sl l) x).lo ≤ fx 0 := fun h => by have := qh2 h; omega
    rw [fx0] at this
    grind
   have := Rat.mul_pos p' (show 0 < fx b - fx a by grind)
   grind
  ·obtain ⟨k, p⟩ := sign_neg e
   have a1 := mean_hi (pp l) (fx x.lo) (fx x.hi) _ (fun u g1 g2 => (slope_in hP k u g1 g2).2) (fx a) (fx b) (qfS ha) (by grind) (qfS hb)
   rw [za, zb] at a1
   have p' : 0 < -fx (qaP (sl l) x).hi := by
    have : ¬ fx 0 ≤ fx (qaP (sl l) x).hi := fun h => by have := qh2 h; omega
    rw [fx0] at this
    grind
   have := Rat.mul_pos p' (show 0 < fx b - fx a by grind)
   grind
 have a := one m n hm.1 hn.2 zm zn
 have b := one n m hn.1 hm.2 zn zm
 omega
theorem uniq_chg (hP : Pol l) {x : Iv} (hx : qaF x = true) (h : qb3 l x = true) : Chg (pp l) (fx x.lo) (fx x.hi) := change_chg hP.len hx (uniq_parts hx h).1
def Part (l : List Value) (x y : Iv) : Prop := qaF y = true ∧ x.lo ≤ y.lo ∧ y.hi ≤ x.hi ∧ Chg (pp l) (fx y.lo) (fx y.hi)
theorem sgn_chg (hP : Pol l) {lo hi low : Int} (h1 : -1152921504606846976 < lo ∧ lo < 1152921504606846976) (h2 : -1152921504606846976 < hi ∧ hi < 1152921504606846976) (a : qaX l lo = low) (b : qaX l hi = -low) (h0 : low = 1 ∨ low = -1) : Chg (pp l) (fx lo) (fx hi) := by
 rcases h0 with rfl | rfl
 ·exact Or.inr ⟨qhS hP.len h2 b, qhR hP.len h1 a⟩
 ·exact Or.inl ⟨qhS hP.len h1 a, qhR hP.len h2 (by simpa using b)⟩
theorem bis_part (hP : Pol l) (x : Iv) (low : Int) (h0 : low = 1 ∨ low = -1) : ∀ (f : Nat) (k lo hi : Int), 0 ≤ k → k ≤ 60 → qaF ⟨lo, hi⟩ = true → x.lo ≤ lo → hi ≤ x.hi → qaX l lo = low → qaX l hi = -low →
  Part l x ⟨(qd5 (fun v : Int × Int × Int => qcW.rnd5 l low v.1 v.2.1 v.2.2) f (k, lo, hi)).2.1, (qd5 (fun v : Int × Int × Int => qcW.rnd5 l low v.1 v.2.1 v.2.2) f (k, lo, hi)).2.2⟩ := by
 intro f
 induction f with
 | zero =>
  intro k lo hi _ _ hok a b s1 s2
  have hh := (qcM _).1 hok
  simp only at hh
  have hc : Chg (pp l) (fx lo) (fx hi) := sgn_chg hP (by omega) (by omega) s1 s2 h0
  exact ⟨hok, a, b, hc⟩
 | succ f ih =>
  intro k lo hi hk hk2 hok a b s1 s2
  have hh := (qcM _).1 hok
  simp only at hh
  have hc : Chg (pp l) (fx lo) (fx hi) := sgn_chg hP (by omega) (by omega) s1 s2 h0
  have stop : Part l x ⟨lo, hi⟩ := ⟨hok, a, b, hc⟩
  have hw : w64 (lo + hi) = lo + hi := qc2 (by omega) (by omega)
  have hm : Int.fdiv (lo + hi) 2 = (lo + hi) / 2 := qe6 _ (by omega)
  have e6 : w64 (k - 1) = k - 1 := qc2 (by omega) (by omega)
  rw [qd5]
  simp only [qcW.rnd5, hw, hm, e6]
  cases c0 : decide (k > 0)
  case false => exact stop
  have hk0 := of_decide_eq_true c0
  simp only [cond_true]
  cases c1 : ((lo + hi) / 2 == lo)
  case true => exact stop
  cases c2 : ((lo + hi) / 2 == hi)
  case true => exact stop
  cases c3 : (qaX l ((lo + hi) / 2) == 0)
  case true => exact stop
  simp only [cond_false]
  cases c4 : (qaX l ((lo + hi) / 2) == low)
  ·simp only [cond_false]
   refine ih (k - 1) lo ((lo + hi) / 2) (by omega) (by omega) ((qcM _).2 (by simp only; omega)) a (by omega) s1 ?_
   have n3 : qaX l ((lo + hi) / 2) ≠ 0 := by simpa using c3
   have n4 : qaX l ((lo + hi) / 2) ≠ low := by simpa using c4
   have hr : qaX l ((lo + hi) / 2) = 0 ∨ qaX l ((lo + hi) / 2) = 1 ∨ qaX l ((lo + hi) / 2) = -1 := qgA _
   omega
  ·simp only [cond_true]
   exact ih (k - 1) ((lo + hi) / 2) hi (by omega) (by omega) ((qcM _).2 (by simp only; omega)) (by omega) b (by simpa using c4) s2
theorem change_signs {x : Iv} (h : (qdJ l x == 1) = true) : (qaX l x.lo = 1 ∨ qaX l x.lo = -1) ∧ qaX l x.hi = -qaX l x.lo := by
 simp only [qdJ] at h
 have a : qaX l x.lo = 0 ∨ qaX l x.lo = 1 ∨ qaX l x.lo = -1 := qgA _
 have b : qaX l x.hi = 0 ∨ qaX l x.hi = 1 ∨ qaX l x.hi = -1 := qgA _
 rcases a with a | a | a <;> rcases b with b | b | b <;> rw [a, b] at h <;> first | (simp at h; done) | (rw [a, b]; simp)
theorem ask_zero (hP : Pol l) {x : Iv} {n : Int} (hx : qaF x = true) (hn : 0 ≤ n ∧ n ≤ 60) (h : qb3 l x = true) : qd7 l x n = 0 := by
 have hr : qbT n 0 60 = true := (qdS _ _ _).2 hn
 simp only [qd7, hP.ok, hx, hr, h, Bool.not_true, cond_false]
theorem bisect_part (hP : Pol l) {x : Iv} {n : Int} (hx : qaF x = true) (hn : 0 ≤ n ∧ n ≤ 60) (h : qb3 l x = true) : (qaJ l x n).2 = 0 ∧ Part l x (qaJ l x n).1 := by
 rw [Bisect_eq l (by have := hP.len.2; omega)]
 have ha := ask_zero hP hx hn h
 obtain ⟨s1, s2⟩ := change_signs (uniq_parts hx h).1
 simp only [qcW, ha, bne_self_eq_false, cond_false]
 exact ⟨trivial, bis_part hP x _ s1 62 n x.lo x.hi hn.1 hn.2 hx (Int.le_refl _) (Int.le_refl _) rfl s2⟩
theorem meet_in {a b c d : Int} (h : qaF ⟨a, b⟩ = true) (N : Iv) (hm : (qcQ ⟨a, b⟩ N).2 = true) : a ≤ (qcQ ⟨a, b⟩ N).1.lo ∧ (qcQ ⟨a, b⟩ N).1.hi ≤ b := by
 cases k : qaF N
 ·simp only [qcQ, h, k, Bool.not_true, Bool.not_false, cond_true, cond_false]
  exact ⟨Int.le_refl _, Int.le_refl _⟩
 ·simp only [qcQ, h, k, Bool.not_true, cond_false] at hm ⊢
  have a1 := le_max a N.lo
  have a2 := min_le b N.hi
  cases q : decide (qbC a N.lo > qa5 b N.hi)
  ·simp only [cond_false]; exact ⟨a1.1, a2.1⟩
  ·rw [q] at hm; cases hm
theorem new_part (hP : Pol l) (x : Iv) : ∀ (f : Nat) (k lo hi : Int), 0 ≤ k → k ≤ 60 → qaF ⟨lo, hi⟩ = true → x.lo ≤ lo → hi ≤ x.hi → Chg (pp l) (fx lo) (fx hi) →
  Part l x ⟨(qd5 (fun v : Int × Int × Int => qcC.rnd5 l (qaI l).1 v.1 v.2.1 v.2.2) f (k, lo, hi)).2.1, (qd5 (fun v : Int × Int × Int => qcC.rnd5 l (qaI l).1 v.1 v.2.1 v.2.2) f (k, lo, hi)).2.2⟩ := by
 intro f
 induction f with
 | zero => intro k lo hi _ _ hok a b hc; exact ⟨hok, a, b, hc⟩
 | succ f ih =>
  intro k lo hi hk hk2 hok a b hc
  have hh := (qcM _).1 hok
  simp only at hh
  have stop : Part l x ⟨lo, hi⟩ := ⟨hok, a, b, hc⟩
  have hw : w64 (lo + hi) = lo + hi := qc2 (by omega) (by omega)
  have hm : Int.fdiv (lo + hi) 2 = (lo + hi) / 2 := qe6 _ (by omega)
  have e6 : w64 (k - 1) = k - 1 := qc2 (by omega) (by omega)
  obtain ⟨m1, m2, m3⟩ := meet_ok hP.len hP.der hok hc
  have m4 := meet_in (c := 0) (d := 0) hok _ m1
  simp only [newN] at m1 m2 m3 m4
  rw [qd5]
  simp only [qcC.rnd5, hw, hm, e6]
  cases c0 : decide (k > 0)
  case false => exact stop
  have hk0 := of_decide_eq_true c0
  simp only [cond_true]
  generalize (qcQ ⟨lo, hi⟩ (qcZ (qbS ((lo + hi) / 2)) (qdR (qaP l (qbS ((lo + hi) / 2))) (qaP (List.reverse (qaI l).1) ⟨lo, hi⟩)))).1 = X at m2 m3 m4 ⊢
  cases c1 : (X.lo == lo && X.hi == hi)
  ·simp only [cond_false]
   exact ih (k - 1) X.lo X.hi (by omega) (by omega) m2 (by omega) (by omega) m3
  ·exact stop
theorem newton_part (hP : Pol l) {x : Iv} {n : Int} (hx : qaF x = true) (hn : 0 ≤ n ∧ n ≤ 60) (h : qb3 l x = true) : (qaG l x n).2 = 0 ∧ Part l x (qaG l x n).1 := by
 rw [Newton_eq l (by have := hP.len.2; omega)]
 have ha := ask_zero hP hx hn h
 simp only [qcC, ha, bne_self_eq_false, cond_false, qcC.fin5]
 exact ⟨trivial, new_part hP x 62 n x.lo x.hi hn.1 hn.2 hx (Int.le_refl _) (Int.le_refl _) (uniq_chg hP hx h)⟩
end Go.G880.Rt
/- Polynomials with given integer roots: their values are products. -/
set_option linter.unusedVariables false
set_option linter.unusedSimpArgs false
namespace Go.G880.Rt
open Go Go.RX Go.G880 Go.G880.Nw Go.Newton
def rw' (cs : List Int) : List Value := cs.map fun c => .agg #[.int .i64 (c * 4294967296), .int .i64 (c * 4294967296)]
theorem qf8 (cs : List Int) : (rw' cs).length = cs.length := by simp [rw']
theorem atIv_rw (cs : List Int) {k : Nat} (h : k < cs.length) : atIv (rw' cs) false (k : Int) = pt cs[k] := by
 have e : nthR (rw' cs) false k = .agg #[.int .i64 (pt cs[k]).lo, .int .i64 (pt cs[k]).hi] := by
  simp only [nthR, rw', List.getD, List.getElem?_map, List.getElem?_eq_getElem h, Option.map_some, Option.getD_some, pt]
 rw [atIv, Int.toNat_natCast, e, rowIv_agg]
theorem fx_int (r : Int) : fx (r * 4294967296) = (r : Rat) := by
 have : (4294967296 : Rat) * (1 / 4294967296) = 1 := by decide +kernel
 rw [fx, Rat.intCast_mul, castU, Rat.mul_assoc, this, Rat.mul_one]
def evI : List Int → Rat → Rat
 | [], _ => 0
 | c :: t, u => (c : Rat) + u * evI t u
theorem evp_cast (cs : List Int) (u : Rat) : evp (cs.map fun c : Int => (c : Rat)) u = evI cs u := by
 induction cs with
 | nil => rfl
 | cons c t ih => simp only [List.map_cons, evp, evI, ih]
theorem pol_map (cs : List Int) : ∀ (c : Nat → Rat) (i : Nat), (∀ k (h : k < cs.length), c (i + k) = (cs[k] : Rat)) → pol c i cs.length = cs.map fun c : Int => (c : Rat) := by
 induction cs with
 | nil => intro c i _; rfl
 | cons a t ih =>
  intro c i h
  simp only [List.length_cons, pol, List.map_cons]
  rw [ih c (i + 1) (fun k hk => by
   have := h (k + 1) (by simp; omega)
   rw [show i + 1 + k = i + (k + 1) by omega, this]
   rfl)]
  have := h 0 (by simp)
  rw [Nat.add_zero] at this
  rw [this]
  rfl
theorem ev_rw (cs : List Int) (u : Rat) : evp (pp (rw' cs)) u = evI cs u := by
 rw [← evp_cast]
 congr 1
 show pol (coef (rw' cs)) 0 (rw' cs).length = _
 rw [qf8]
 refine pol_map cs _ 0 fun k hk => ?_
 rw [Nat.zero_add, coef, atIv_rw cs hk]
 exact fx_int _
theorem ev_mulc_go (r : Int) (u : Rat) (p : List Int) : ∀ x : Int, evI (List.zipWith (fun a b => a - r * b) (x :: p) (p ++ [0])) u = (x : Rat) + u * evI p u - (r : Rat) * evI p u := by
 induction p with
 | nil => intro x; simp only [List.nil_append, List.zipWith_cons_cons, List.zipWith_nil_left, evI, Int.mul_zero, Int.sub_zero]; grind
 | cons b q ih =>
  intro x
  simp only [List.cons_append, List.zipWith_cons_cons, evI]
  rw [ih b, Rat.intCast_sub, Rat.intCast_mul]
  grind
theorem ev_mulc (r : Int) (u : Rat) (p : List Int) : evI (mulc r p) u = evI p u * (u - (r : Rat)) := by
 rw [mulc, ev_mulc_go]
 have : ((0 : Int) : Rat) = 0 := rfl
 rw [this]
 grind
theorem ev_coefs_go (u : Rat) (rs : List Int) : ∀ p : List Int, evI (rs.foldl (fun p r => mulc r p) p) u = rs.foldl (fun (a : Rat) (r : Int) => a * (u - (r : Rat))) (evI p u) := by
 induction rs with
 | nil => intro p; rfl
 | cons r t ih => intro p; simp only [List.foldl_cons, ih, ev_mulc]
theorem ev_coefs (u : Rat) (rs : List Int) : evI (qeC rs) u = rs.foldl (fun (a : Rat) (r : Int) => a * (u - (r : Rat))) 1 := by
 rw [qeC, ev_coefs_go]
 congr 1
 show ((1 : Int) : Rat) + u * 0 = 1
 have : ((1 : Int) : Rat) = 1 := rfl
 rw [this]
 grind
theorem fold_zero (u : Rat) (rs : List Int) : rs.foldl (fun (a : Rat) (r : Int) => a * (u - (r : Rat))) 0 = 0 := by
 induction rs with
 | nil => rfl
 | cons r t ih => rw [List.foldl_cons, Rat.zero_mul, ih]
theorem qfZ {rs : List Int} {r : Int} (h : r ∈ rs) : evp (pp (rw' (qeC rs))) (fx (r * 4294967296)) = 0 := by
 rw [ev_rw, fx_int, ev_coefs]
 suffices H : ∀ a : Rat, rs.foldl (fun (a : Rat) (s : Int) => a * ((r : Rat) - (s : Rat))) a = 0 from H 1
 induction rs with
 | nil => cases h
 | cons s t ih =>
  intro a
  rw [List.foldl_cons]
  rcases List.mem_cons.1 h with e | e
  ·subst e
   have : a * ((r : Rat) - (r : Rat)) = 0 := by grind
   rw [this, fold_zero]
  ·exact ih e _
theorem fold_pos (u v : Rat) (rs : List Int) (h : ∀ r ∈ rs, 0 < (u - (r : Rat)) * (v - (r : Rat))) : ∀ a b : Rat, 0 < a * b → 0 < rs.foldl (fun (a : Rat) (r : Int) => a * (u - (r : Rat))) a * rs.foldl (fun (a : Rat) (r : Int) => a * (v - (r : Rat))) b := by
 induction rs with
 | nil => intro a b h; exact h
 | cons r t ih =>
  intro a b hab
  rw [List.foldl_cons, List.foldl_cons]
  refine ih (fun s hs => h s (List.mem_cons_of_mem _ hs)) _ _ ?_
  have := Rat.mul_pos hab (h r (List.mem_cons_self))
  have e : a * (u - (r : Rat)) * (b * (v - (r : Rat))) = a * b * ((u - (r : Rat)) * (v - (r : Rat))) := by grind
  rw [e]
  exact this
theorem chg_root {rs : List Int} {lo hi : Int} (hlh : lo ≤ hi) (h : Chg (pp (rw' (qeC rs))) (fx lo) (fx hi)) : ∃ r ∈ rs, lo ≤ r * 4294967296 ∧ r * 4294967296 ≤ hi := by
 by_cases hq : ∃ r ∈ rs, lo ≤ r * 4294967296 ∧ r * 4294967296 ≤ hi
 ·exact hq
 exfalso
 have h1 : ((1 : Rat) * 1) = 1 := by grind
 have hp := fold_pos (fx lo) (fx hi) rs (fun r hr => by
  have hn : ¬ (lo ≤ r * 4294967296 ∧ r * 4294967296 ≤ hi) := fun q => hq ⟨r, hr, q⟩
  have lt : ∀ {a b : Int}, a < b → fx a < fx b := fun {a b} hab => by
   have := qfS (Int.le_of_lt hab)
   have ne : fx a ≠ fx b := fun e => by have := qh2 (a := b) (b := a) (by rw [e]; exact Rat.le_refl); omega
   grind
  rw [← fx_int r]
  by_cases q : hi < r * 4294967296
  ·have a := lt q
   have b := lt (show lo < r * 4294967296 by omega)
   have := Rat.mul_pos (show 0 < fx (r * 4294967296) - fx lo by grind) (show 0 < fx (r * 4294967296) - fx hi by grind)
   grind
  ·have a := lt (show r * 4294967296 < lo by omega)
   have b := lt (show r * 4294967296 < hi by omega)
   exact Rat.mul_pos (by grind) (by grind)) 1 1 (by rw [h1]; decide +kernel)
 rw [← ev_coefs, ← ev_coefs, ← ev_rw, ← ev_rw] at hp
 rcases h with ⟨a, b⟩ | ⟨a, b⟩
 ·have := Rat.mul_nonneg (show 0 ≤ -evp (pp (rw' (qeC rs))) (fx lo) by grind) b
  grind
 ·have := Rat.mul_nonneg b (show 0 ≤ -evp (pp (rw' (qeC rs))) (fx hi) by grind)
  grind
theorem mulc_len (r : Int) (p : List Int) : (mulc r p).length = p.length + 1 := by simp [mulc]
theorem qgG (rs : List Int) : (qeC rs).length = rs.length + 1 := by
 have : ∀ p : List Int, (rs.foldl (fun p r => mulc r p) p).length = rs.length + p.length := by
  induction rs with
  | nil => intro p; simp
  | cons r t ih => intro p; rw [List.foldl_cons, ih, mulc_len, List.length_cons]; omega
 exact this [1]
theorem inc_val (cs : List Int) {X H : Iv} (hx : Inc X H) (h1 : 1 ≤ cs.length ∧ cs.length ≤ 17) : Inc (qaP (rw' cs) X) (hor H (cs.map pt)) :=
 at_inc (rw' cs) (cs.map pt) X H hx (by simp [qf8]) (by rw [qf8]; omega) fun k hk => by
  rw [qf8] at hk
  rw [atIv_rw cs hk]
  have : (cs.map pt).getD k qf9 = pt cs[k] := by simp [List.getD, hk]
  rw [this]
  exact qiL _ _ _ fun _ => rfl
theorem hderF_len (i : Int) (hs : List Iv) : (hderF i hs).length = hs.length := by
 induction hs generalizing i with
 | nil => rfl
 | cons c t ih => simp only [hderF, List.length_cons, ih]
theorem hderF_at (hs : List Iv) : ∀ (i : Int) (k : Nat), k < hs.length → (hderF i hs).getD k qf9 = hmul (pt (i + k)) (hs.getD k qf9) := by
 induction hs with
 | nil => intro i k h; simp at h
 | cons c t ih =>
  intro i k h
  cases k with
  | zero => simp [hderF]
  | succ k =>
   simp only [hderF, List.getD_cons_succ]
   rw [ih (i + 1) k (by simpa using h), show i + 1 + (k : Int) = i + ((k + 1 : Nat) : Int) by omega]
theorem inc_integer (n : Int) : Inc (qa7 n) (pt n) := qiL _ _ _ fun h => by
 have hb : -1152921504606846976 < n * 4294967296 ∧ n * 4294967296 ≤ n * 4294967296 ∧ n * 4294967296 < 1152921504606846976 := (hok_iff _).1 h
 have hr : qbT n (-268435455) 268435455 = true := (qdS _ _ _).2 (by omega)
 simp only [qa7, hr, Bool.not_true, cond_false]
 rw [qc2 (by omega) (by omega), qg6 (by omega)]
theorem inc_slope (cs : List Int) (hd : ((qaI (rw' cs)).2 == 0) = true) {X H : Iv} (hx : Inc X H) (h1 : 2 ≤ cs.length ∧ cs.length ≤ 17) : Inc (qaP (sl (rw' cs)) X) (hor H (hder (cs.map pt))) := by
 rcases der_vals (l := rw' cs) (by rw [qf8]; omega) hd with ⟨a, b, c⟩ | ⟨a, _⟩
 ·rw [qf8] at b c
  have hl : (hder (cs.map pt)).length = (sl (rw' cs)).length := by
   rw [b, hder, hderF_len]; simp
  refine at_inc (sl (rw' cs)) (hder (cs.map pt)) X H hx hl (by rw [b]; omega) fun k hk => ?_
  rw [b] at hk
  rw [c k hk, hder, hderF_at _ _ _ (by simp; omega)]
  have e : (1 : Int) + (k : Int) = ((k + 1 : Nat) : Int) := by omega
  rw [e]
  refine inc_mul (inc_integer _) ?_
  have e2 : (cs.map pt).tail.getD k qf9 = pt (cs[k + 1]'(by omega)) := by
   simp [List.getD, List.getElem?_tail, show k + 1 < cs.length by omega]
  rw [e2, atIv_rw cs (by omega)]
  exact qiL _ _ _ fun _ => rfl
 ·rw [qf8] at a; omega
end Go.G880.Rt
/- What is reckoned for each set of roots; derivatives that are known. -/
set_option linter.unusedVariables false
set_option linter.unusedSimpArgs false
namespace Go.G880.Rt
open Go Go.RX Go.G880 Go.G880.Nw Go.Newton
theorem allOk_of (l : List Value) : ∀ (n i : Nat), (∀ k, i ≤ k → k < i + n → qaF (atIv l false (k : Int)) = true) → allOk l i n = true := by
 intro n
 induction n with
 | zero => intro i _; rfl
 | succ n ih =>
  intro i h
  rw [allOk, h i (Nat.le_refl _) (by omega), Bool.true_and]
  exact ih (i + 1) fun k h1 h2 => h k (by omega) (by omega)
theorem l09_of (l : List Value) (h1 : 1 ≤ l.length ∧ l.length ≤ 17) (h : ∀ k, k < l.length → qaF (atIv l false (k : Int)) = true) : qbK l = true := by
 rw [qiK l (by omega), allOk_of l l.length 0 (fun k _ h2 => h k (by omega)), (qdS _ _ _).2 (by omega)]
 rfl
theorem pol_rw (cs : List Int) (h1 : 2 ≤ cs.length ∧ cs.length ≤ 17) (ha : (cs.map pt).all hok = true) (hb : (hder (cs.map pt)).all hok = true) : Pol (rw' cs) := by
 have hl : 1 ≤ (rw' cs).length ∧ (rw' cs).length ≤ 17 := by rw [qf8]; omega
 have hpt : ∀ k (h : k < cs.length), hok (pt cs[k]) = true := fun k h => List.all_eq_true.1 ha _ (List.mem_map.2 ⟨_, List.getElem_mem h, rfl⟩)
 have hv : qbK (rw' cs) = true := l09_of _ hl fun k hk => by
  rw [qf8] at hk
  rw [atIv_rw cs hk, ← hok_eq]
  exact hpt k hk
 refine ⟨hl, hv, ?_⟩
 have hn' : 1 ≤ ((rw' cs).length : Int) ∧ ((rw' cs).length : Int) ≤ 1048576 := by omega
 have e2 : (((derD (rw' cs) 0 ((rw' cs).length - 1) []).length : Int) == 0) = false := by rw [qeW, qf8]; simp only [beq_eq_false_iff_ne, ne_eq, List.length_nil]; omega
 have e3 : decide (((derD (rw' cs) 0 ((rw' cs).length - 1) []).length : Int) > 17) = false := by rw [qeW]; exact decide_eq_false (by simp only [List.length_nil]; omega)
 have e5 : qbK (List.reverse (derD (rw' cs) 0 ((rw' cs).length - 1) [])) = true := by
  refine l09_of _ (by rw [List.length_reverse, qeW, List.length_nil, qf8]; omega) fun k hk => ?_
  rw [List.length_reverse, qeW, List.length_nil, qf8] at hk
  have hk' : k < cs.length - 1 := by omega
  rw [derD_rev, List.reverse_nil, List.nil_append, atIv, Int.toNat_natCast, nth_der (rw' cs) _ k (by rw [qf8]; omega)]
  have ea : atIv (rw' cs) false ((k + 1 : Nat) : Int) = rowIv (nthR (rw' cs) false (k + 1)) := by rw [atIv, Int.toNat_natCast]
  have key : rowIv (oneD (rw' cs) k) = qdQ (qa7 ((k + 1 : Nat) : Int)) (atIv (rw' cs) false ((k + 1 : Nat) : Int)) := by
   rw [ea]; exact rowIv_agg _
  rw [key, atIv_rw cs (by omega)]
  have hi := inc_mul (inc_integer ((k + 1 : Nat) : Int)) (qiL _ _ (pt (cs[k + 1]'(by omega))) (fun _ => rfl))
  refine (hi ?_).1
  have hm : hmul (pt ((k + 1 : Nat) : Int)) (pt (cs[k + 1]'(by omega))) ∈ hder (cs.map pt) := by
   have hlen : k < (hder (cs.map pt)).length := by rw [hder, hderF_len]; simp; omega
   have hat := hderF_at (cs.map pt).tail 1 k (by simp; omega)
   have e : (1 : Int) + (k : Int) = ((k + 1 : Nat) : Int) := by omega
   have e4 : (cs.map pt).tail.getD k qf9 = pt (cs[k + 1]'(by omega)) := by
    simp [List.getD, List.getElem?_tail, show k + 1 < cs.length by omega]
   rw [e, e4] at hat
   rw [← hat]
   have : (hderF 1 (cs.map pt).tail).getD k qf9 = (hder (cs.map pt))[k] := by simp [List.getD, hder, show k < (hderF 1 (cs.map pt).tail).length from hlen]
   rw [this]
   exact List.getElem_mem hlen
  exact List.all_eq_true.1 hb _ hm
 simp only [qaI, hv, Bool.not_true, cond_false, sder_fin (rw' cs) hn', e2, e3, e5]
 rfl
def cI (A B : List Int) (j : Nat) : Nat → Int
 | 0 => 0
 | n + 1 => if n ≤ j ∧ j - n < B.length then cI A B j n + A.getD n 0 * B.getD (j - n) 0 else cI A B j n
def small (x : Int) : Bool := ile (-1000000) x && ile x 1000000
theorem qiD (x : Int) : small x = true ↔ -1000000 ≤ x ∧ x ≤ 1000000 := by simp only [small, Bool.and_eq_true, qg8]
def eqI : List Int → List Int → Bool
 | [], [] => true
 | a :: t, b :: u => isz (Int.sub a b) && eqI t u
 | _, _ => false
theorem eqI_eq : ∀ {a b : List Int}, eqI a b = true → a = b := by
 intro a
 induction a with
 | nil => intro b h; cases b with
  | nil => rfl
  | cons _ _ => cases h
 | cons x t ih =>
  intro b h
  cases b with
  | nil => cases h
  | cons y u =>
   simp only [eqI, Bool.and_eq_true, isz_iff] at h
   have h1 : x - y = 0 := h.1
   rw [ih h.2, show x = y by omega]
def mulOk (A : List Int) (r : Int) : Bool :=
 (List.range (A.length + 1)).all (fun j => (List.range (A.length + 1)).all fun n => small (cI A [-r, 1] j n)) && A.all small && small (-r) &&
 (List.range A.length).all (fun n => small (Int.mul (A.getD n 0) (-r))) && eqI ((List.range (A.length + 1)).map fun j => cI A [-r, 1] j A.length) (mulc r A)
def preOk (rs : List Int) : Bool := (List.range rs.length).all fun j => mulOk (qeC (rs.take j)) (rs.getD j 0)
def distinct : List Int → Bool
 | [] => true
 | a :: t => t.all (fun b => !isz (Int.sub a b)) && distinct t
def facts (rs : List Int) : Bool := good rs && preOk rs && ((qeC rs).map pt).all hok && (hder ((qeC rs).map pt)).all hok && distinct rs && rs.all (fun r => ile (-4) r && ile r 4)
def chk3 (p s : List Int) : Bool := bif Nat.ble 1 (p ++ s).length && Nat.ble (p ++ s).length 4 then facts (p ++ s) else true
end Go.G880.Rt
