/- The machine walks the functions that FnExactArcI reaches as the plain functions say. -/
import Derived.Test.YtomphoojkemcpaaGreatProg
import Derived.Test.YtomphoojkemcpaaGreatP18
import Derived.Laws.Externs
import Derived.Test.YtomphoojkemcpaaGreatLen64
set_option linter.unusedVariables false
set_option linter.unusedSimpArgs false
set_option maxRecDepth 100000
namespace Go.Proofs.YtomphoojkemcpaaGreat
open Go Go.RX Go.G880 Go.Proofs
theorem hmix : Tryz.prog.follows .mixedOrders = true := by kernel_rfl
/-! ### laws.toEllipsoid -/
def laws_toEllipsoid.t {ρ : Type} (a : El) (K : El → Option ρ) : Option ρ := K a
theorem laws_toEllipsoid.t_eq {ρ : Type} (a : El) (K : El → Option ρ) : laws_toEllipsoid.t a K = K (laws_toEllipsoid a) := rfl
theorem laws_toEllipsoid.gives (a : El) : GivesV Tryz.prog 20 [cEl.enc a] (cEl.enc (laws_toEllipsoid a)) :=
  givesT hmix [] 0 none Tryz.func20 rfl rfl ((by kernel_rfl : run1 Tryz.prog (tab []) 0 none noL Tryz.f20 [cEl.enc a] [] = laws_toEllipsoid.t a fun r => some (cEl.enc r, [])).trans (laws_toEllipsoid.t_eq a _))
def laws_toEllipsoid.e : Entry Tryz.prog := entry1 cEl cEl 20 laws_toEllipsoid laws_toEllipsoid.gives

/-! ### laws.toInterval -/
def laws_toInterval.t {ρ : Type} (a : Iv) (K : Iv → Option ρ) : Option ρ := K a
theorem laws_toInterval.t_eq {ρ : Type} (a : Iv) (K : Iv → Option ρ) : laws_toInterval.t a K = K (laws_toInterval a) := rfl
theorem laws_toInterval.gives (a : Iv) : GivesV Tryz.prog 12 [cIv.enc a] (cIv.enc (laws_toInterval a)) :=
  givesT hmix [] 0 none Tryz.func12 rfl rfl ((by kernel_rfl : run1 Tryz.prog (tab []) 0 none noL Tryz.f12 [cIv.enc a] [] = laws_toInterval.t a fun r => some (cIv.enc r, [])).trans (laws_toInterval.t_eq a _))
def laws_toInterval.e : Entry Tryz.prog := entry1 cIv cIv 12 laws_toInterval laws_toInterval.gives

/-! ### spec.l00In -/
def spec_l00In.t {ρ : Type} (n : Int) (low : Int) (high : Int) (K : Bool → Option ρ) : Option ρ := bif decide (n ≥ low) then (K (decide (n ≤ high))) else (K false)
theorem spec_l00In.t_eq {ρ : Type} (n : Int) (low : Int) (high : Int) (K : Bool → Option ρ) : spec_l00In.t n low high K = K (spec_l00In n low high) := cq (fun h0 => rfl) (fun h0 => rfl)
theorem spec_l00In.gives (n : Int) (low : Int) (high : Int) : GivesV Tryz.prog 64 [(cInt .i64).enc n, (cInt .i64).enc low, (cInt .i64).enc high] (cBool.enc (spec_l00In n low high)) :=
  givesT hmix [] 0 none Tryz.func64 rfl rfl ((by kernel_rfl : run1 Tryz.prog (tab []) 0 none noL Tryz.f64 [(cInt .i64).enc n, (cInt .i64).enc low, (cInt .i64).enc high] [] = spec_l00In.t n low high fun r => some (cBool.enc r, [])).trans (spec_l00In.t_eq n low high _))
def spec_l00In.e : Entry Tryz.prog := entry3 (cInt .i64) (cInt .i64) (cInt .i64) cBool 64 spec_l00In spec_l00In.gives

/-! ### spec.l12Ok -/
def spec_l12Ok.t {ρ : Type} (e_0 : El) (K : Bool → Option ρ) : Option ρ := bif (spec_l00In e_0.a 1000 100000000000) then (bif (spec_l00In e_0.den 1 1000000000000) then (bif decide (e_0.num ≥ 0) then (K (decide (e_0.num ≤ (w64 (Int.tdiv e_0.den 100))))) else (K false)) else (K false)) else (K false)
theorem spec_l12Ok.t_eq {ρ : Type} (e_0 : El) (K : Bool → Option ρ) : spec_l12Ok.t e_0 K = K (spec_l12Ok e_0) := cq (fun h0 => cq (fun h1 => cq (fun h2 => rfl) (fun h2 => rfl)) (fun h1 => rfl)) (fun h0 => rfl)
theorem spec_l12Ok.gives (e_0 : El) : GivesV Tryz.prog 31 [cEl.enc e_0] (cBool.enc (spec_l12Ok e_0)) :=
  givesT hmix [spec_l00In.e] 0 none Tryz.func31 rfl rfl ((by kernel_rfl : run1 Tryz.prog (tab [spec_l00In.e]) 0 none noL Tryz.f31 [cEl.enc e_0] [] = spec_l12Ok.t e_0 fun r => some (cBool.enc r, [])).trans (spec_l12Ok.t_eq e_0 _))
def spec_l12Ok.e : Entry Tryz.prog := entry1 cEl cBool 31 spec_l12Ok spec_l12Ok.gives

/-! ### spec.l04Whole -/
def spec_l04Whole.t {ρ : Type} (K : Iv → Option ρ) : Option ρ := K (Iv.mk (-1152921504606846976) 1152921504606846976)
theorem spec_l04Whole.t_eq {ρ : Type} (K : Iv → Option ρ) : spec_l04Whole.t K = K spec_l04Whole := rfl
theorem spec_l04Whole.gives : GivesV Tryz.prog 33 [] (cIv.enc spec_l04Whole) :=
  givesT hmix [] 0 none Tryz.func33 rfl rfl ((by kernel_rfl : run1 Tryz.prog (tab []) 0 none noL Tryz.f33 [] [] = spec_l04Whole.t fun r => some (cIv.enc r, [])).trans (spec_l04Whole.t_eq _))
def spec_l04Whole.e : Entry Tryz.prog := entry0 cIv 33 spec_l04Whole spec_l04Whole.gives

/-! ### spec.l04Ok -/
def spec_l04Ok.t {ρ : Type} (a : Iv) (K : Bool → Option ρ) : Option ρ := bif decide ((-1152921504606846976) < a.lo) then (bif decide (a.lo ≤ a.hi) then (K (decide (a.hi < 1152921504606846976))) else (K false)) else (K false)
theorem spec_l04Ok.t_eq {ρ : Type} (a : Iv) (K : Bool → Option ρ) : spec_l04Ok.t a K = K (spec_l04Ok a) := cq (fun h0 => cq (fun h1 => rfl) (fun h1 => rfl)) (fun h0 => rfl)
theorem spec_l04Ok.gives (a : Iv) : GivesV Tryz.prog 65 [cIv.enc a] (cBool.enc (spec_l04Ok a)) :=
  givesT hmix [] 0 none Tryz.func65 rfl rfl ((by kernel_rfl : run1 Tryz.prog (tab []) 0 none noL Tryz.f65 [cIv.enc a] [] = spec_l04Ok.t a fun r => some (cBool.enc r, [])).trans (spec_l04Ok.t_eq a _))
def spec_l04Ok.e : Entry Tryz.prog := entry1 cIv cBool 65 spec_l04Ok spec_l04Ok.gives

/-! ### spec.InsideI -/
def spec_InsideI.t {ρ : Type} (a : Iv) (b : Iv) (K : Bool → Option ρ) : Option ρ := bif (!(spec_l04Ok b)) then (K true) else (bif (spec_l04Ok a) then (bif decide (b.lo ≤ a.lo) then (K (decide (a.hi ≤ b.hi))) else (K false)) else (K false))
theorem spec_InsideI.t_eq {ρ : Type} (a : Iv) (b : Iv) (K : Bool → Option ρ) : spec_InsideI.t a b K = K (spec_InsideI a b) := cq (fun h0 => rfl) (fun h0 => cq (fun h1 => cq (fun h2 => rfl) (fun h2 => rfl)) (fun h1 => rfl))
theorem spec_InsideI.gives (a : Iv) (b : Iv) : GivesV Tryz.prog 32 [cIv.enc a, cIv.enc b] (cBool.enc (spec_InsideI a b)) :=
  givesT hmix [spec_l04Ok.e] 0 none Tryz.func32 rfl rfl ((by kernel_rfl : run1 Tryz.prog (tab [spec_l04Ok.e]) 0 none noL Tryz.f32 [cIv.enc a, cIv.enc b] [] = spec_InsideI.t a b fun r => some (cBool.enc r, [])).trans (spec_InsideI.t_eq a b _))
def spec_InsideI.e : Entry Tryz.prog := entry2 cIv cIv cBool 32 spec_InsideI spec_InsideI.gives

/-! ### spec.l04Make -/
def spec_l04Make.t {ρ : Type} (lo_0 : Int) (hi_1 : Int) (K : Iv → Option ρ) : Option ρ := bif (!(spec_l04Ok (Iv.mk lo_0 hi_1))) then (K spec_l04Whole) else (K (Iv.mk lo_0 hi_1))
theorem spec_l04Make.t_eq {ρ : Type} (lo_0 : Int) (hi_1 : Int) (K : Iv → Option ρ) : spec_l04Make.t lo_0 hi_1 K = K (spec_l04Make lo_0 hi_1) := cq (fun h0 => rfl) (fun h0 => rfl)
theorem spec_l04Make.gives (lo_0 : Int) (hi_1 : Int) : GivesV Tryz.prog 66 [(cInt .i64).enc lo_0, (cInt .i64).enc hi_1] (cIv.enc (spec_l04Make lo_0 hi_1)) :=
  givesT hmix [spec_l04Ok.e, spec_l04Whole.e] 0 none Tryz.func66 rfl rfl ((by kernel_rfl : run1 Tryz.prog (tab [spec_l04Ok.e, spec_l04Whole.e]) 0 none noL Tryz.f66 [(cInt .i64).enc lo_0, (cInt .i64).enc hi_1] [] = spec_l04Make.t lo_0 hi_1 fun r => some (cIv.enc r, [])).trans (spec_l04Make.t_eq lo_0 hi_1 _))
def spec_l04Make.e : Entry Tryz.prog := entry2 (cInt .i64) (cInt .i64) cIv 66 spec_l04Make spec_l04Make.gives

/-! ### spec.l08At -/
def spec_l08At.t {ρ : Type} (n : Int) (K : Iv → Option ρ) : Option ρ := K (spec_l04Make n n)
theorem spec_l08At.t_eq {ρ : Type} (n : Int) (K : Iv → Option ρ) : spec_l08At.t n K = K (spec_l08At n) := rfl
theorem spec_l08At.gives (n : Int) : GivesV Tryz.prog 67 [(cInt .i64).enc n] (cIv.enc (spec_l08At n)) :=
  givesT hmix [spec_l04Make.e] 0 none Tryz.func67 rfl rfl ((by kernel_rfl : run1 Tryz.prog (tab [spec_l04Make.e]) 0 none noL Tryz.f67 [(cInt .i64).enc n] [] = spec_l08At.t n fun r => some (cIv.enc r, [])).trans (spec_l08At.t_eq n _))
def spec_l08At.e : Entry Tryz.prog := entry1 (cInt .i64) cIv 67 spec_l08At spec_l08At.gives

/-! ### spec.l02Size -/
def spec_l02Size.t {ρ : Type} (n : Int) (K : Int → Option ρ) : Option ρ := bif decide (n < 0) then (K (u64 (0 - (u64 n)))) else (K (u64 n))
theorem spec_l02Size.t_eq {ρ : Type} (n : Int) (K : Int → Option ρ) : spec_l02Size.t n K = K (spec_l02Size n) := cq (fun h0 => rfl) (fun h0 => rfl)
theorem spec_l02Size.gives (n : Int) : GivesV Tryz.prog 173 [(cInt .i64).enc n] ((cInt .u64).enc (spec_l02Size n)) :=
  givesT hmix [] 0 none Tryz.func173 rfl rfl ((by kernel_rfl : run1 Tryz.prog (tab []) 0 none noL Tryz.f173 [(cInt .i64).enc n] [] = spec_l02Size.t n fun r => some ((cInt .u64).enc r, [])).trans (spec_l02Size.t_eq n _))
def spec_l02Size.e : Entry Tryz.prog := entry1 (cInt .i64) (cInt .u64) 173 spec_l02Size spec_l02Size.gives

/-! ### spec.l02Times -/
def spec_l02Times.t {ρ : Type} (a : Int) (b : Int) (K : (Int × Int) → Option ρ) : Option ρ := let x2 := (u64 ((u64 ((Int.fdiv a 4294967296) * (andI .u64 b 4294967295))) + (Int.fdiv (u64 ((andI .u64 a 4294967295) * (andI .u64 b 4294967295))) 4294967296))); K ((u64 ((u64 ((u64 ((Int.fdiv a 4294967296) * (Int.fdiv b 4294967296))) + (Int.fdiv x2 4294967296))) + (Int.fdiv (u64 ((u64 ((andI .u64 a 4294967295) * (Int.fdiv b 4294967296))) + (andI .u64 x2 4294967295))) 4294967296))), (u64 (a * b)))
theorem spec_l02Times.t_eq {ρ : Type} (a : Int) (b : Int) (K : (Int × Int) → Option ρ) : spec_l02Times.t a b K = K (spec_l02Times a b) := rfl
theorem spec_l02Times.gives (a : Int) (b : Int) : GivesV Tryz.prog 172 [(cInt .u64).enc a, (cInt .u64).enc b] ((cT2 (cInt .u64) (cInt .u64)).enc (spec_l02Times a b)) :=
  givesT hmix [] 0 none Tryz.func172 rfl rfl ((by kernel_rfl : run1 Tryz.prog (tab []) 0 none noL Tryz.f172 [(cInt .u64).enc a, (cInt .u64).enc b] [] = spec_l02Times.t a b fun r => some ((cT2 (cInt .u64) (cInt .u64)).enc r, [])).trans (spec_l02Times.t_eq a b _))
def spec_l02Times.e : Entry Tryz.prog := entry2 (cInt .u64) (cInt .u64) (cT2 (cInt .u64) (cInt .u64)) 172 spec_l02Times spec_l02Times.gives

/-! ### spec.l02Minus -/
def spec_l02Minus.t {ρ : Type} (w : Wd) (K : Wd → Option ρ) : Option ρ := bif (w.lo == 0) then (K (Wd.mk (w64 (0 - w.hi)) (u64 (0 - w.lo)))) else (K (Wd.mk (xorI .i64 (-1) w.hi) (u64 (0 - w.lo))))
theorem spec_l02Minus.t_eq {ρ : Type} (w : Wd) (K : Wd → Option ρ) : spec_l02Minus.t w K = K (spec_l02Minus w) := cq (fun h0 => rfl) (fun h0 => rfl)
theorem spec_l02Minus.gives (w : Wd) : GivesV Tryz.prog 169 [cWd.enc w] (cWd.enc (spec_l02Minus w)) :=
  givesT hmix [] 0 none Tryz.func169 rfl rfl ((by kernel_rfl : run1 Tryz.prog (tab []) 0 none noL Tryz.f169 [cWd.enc w] [] = spec_l02Minus.t w fun r => some (cWd.enc r, [])).trans (spec_l02Minus.t_eq w _))
def spec_l02Minus.e : Entry Tryz.prog := entry1 cWd cWd 169 spec_l02Minus spec_l02Minus.gives

/-! ### spec.l02Mul -/
def spec_l02Mul.t {ρ : Type} (a : Int) (b : Int) (K : Wd → Option ρ) : Option ρ := let t3 := (spec_l02Times (spec_l02Size a) (spec_l02Size b)); bif (!(decide (a < 0) == decide (b < 0))) then (K (spec_l02Minus (Wd.mk (w64 t3.1) t3.2))) else (K (Wd.mk (w64 t3.1) t3.2))
theorem spec_l02Mul.t_eq {ρ : Type} (a : Int) (b : Int) (K : Wd → Option ρ) : spec_l02Mul.t a b K = K (spec_l02Mul a b) := cq (fun h0 => rfl) (fun h0 => rfl)
theorem spec_l02Mul.gives (a : Int) (b : Int) : GivesV Tryz.prog 141 [(cInt .i64).enc a, (cInt .i64).enc b] (cWd.enc (spec_l02Mul a b)) :=
  givesT hmix [spec_l02Size.e, spec_l02Times.e, spec_l02Minus.e] 0 none Tryz.func141 rfl rfl ((by kernel_rfl : run1 Tryz.prog (tab [spec_l02Size.e, spec_l02Times.e, spec_l02Minus.e]) 0 none noL Tryz.f141 [(cInt .i64).enc a, (cInt .i64).enc b] [] = spec_l02Mul.t a b fun r => some (cWd.enc r, [])).trans (spec_l02Mul.t_eq a b _))
def spec_l02Mul.e : Entry Tryz.prog := entry2 (cInt .i64) (cInt .i64) cWd 141 spec_l02Mul spec_l02Mul.gives

/-! ### spec.l02Divide -/
def spec_l02Divide.ls : Option (List Nat) := some [1, 2, 9, 10, 11, 12]
def spec_l02Divide.env5 (lo_1 : Int) (d : Int) (v : Int × Int × Int × Int) : Env := [(1, .int .u64 lo_1), (2, .int .u64 d), (9, .int .u64 v.1), (10, .int .u64 v.2.1), (11, .int .u64 v.2.2.1), (12, .int .i64 v.2.2.2)]
def spec_l02Divide.heap5 (lo_1 : Int) (d : Int) (v : Int × Int × Int × Int) : LH := []
def spec_l02Divide.L5 : LEntry := ⟨5, fun _ tm σ K => match tm, σ with
  | [(1, .int .u64 lo_1), (2, .int .u64 d), (9, .int .u64 qhi), (10, .int .u64 rest), (11, .int .u64 q), (12, .int .i64 i)], [] => (match decide (i = 63) with | true => K (.exit 0) (spec_l02Divide.env5 lo_1 d (spec_l02Divide.fin5 lo_1 d (qhi, rest, q, i))) (spec_l02Divide.heap5 lo_1 d (spec_l02Divide.fin5 lo_1 d (qhi, rest, q, i))) | false => none)
  | _, _ => none⟩
def spec_l02Divide.lt5 {ρ : Type} (lo_1 : Int) (d : Int) (qhi : Int) (rest : Int) (q : Int) (i : Int) (K : Sum (Int × Int × Int × Int) (Int × Int × Int × Int) → Option ρ) : Option ρ := bif decide (i ≥ 0) then (bif decide ((u64 i) < 0) then none else (let x1 := (andI .u64 (Int.fdiv lo_1 (2 ^ (min (Int.toNat (u64 i)) 64))) 1); bif ((Int.fdiv rest 9223372036854775808) == 1) then (K (Sum.inl (qhi, (u64 ((orI .u64 (u64 (rest * 2)) x1) - d)), (orI .u64 (u64 (q * 2)) 1), (w64 (i - 1))))) else (bif decide ((orI .u64 (u64 (rest * 2)) x1) ≥ d) then (K (Sum.inl (qhi, (u64 ((orI .u64 (u64 (rest * 2)) x1) - d)), (orI .u64 (u64 (q * 2)) 1), (w64 (i - 1))))) else (K (Sum.inl (qhi, (orI .u64 (u64 (rest * 2)) x1), (u64 (q * 2)), (w64 (i - 1)))))))) else (K (Sum.inr (qhi, rest, q, i)))
theorem spec_l02Divide.lt5_eq {ρ : Type} (lo_1 : Int) (d : Int) (qhi : Int) (rest : Int) (q : Int) (i : Int) (hpre : -1 ≤ i ∧ i ≤ 63) (K : Sum (Int × Int × Int × Int) (Int × Int × Int × Int) → Option ρ) : spec_l02Divide.lt5 lo_1 d qhi rest q i K = K (spec_l02Divide.rnd5 lo_1 d qhi rest q i) := cq (fun h0 => cqF (by first | exact u64_neg _ | (simp only [decide_eq_false_iff_not, decide_eq_true_eq] at *; omega)) (fun h1 => cq (fun h2 => rfl) (fun h2 => cq (fun h3 => rfl) (fun h3 => rfl)))) (fun h0 => rfl)
theorem spec_l02Divide.step5 (lo_1 : Int) (d : Int) (qhi : Int) (rest : Int) (q : Int) (i : Int) (k : Nat) (R : Type) (K : LX → Env → LH → Option R) : loopN Tryz.prog 0 spec_l02Divide.ls (k + 1) (exec Tryz.prog (tab (P := Tryz.prog) []) 0 51 0 spec_l02Divide.ls (lam [spec_l02Divide.L5]) (cOf Tryz.f168 0)) (spec_l02Divide.env5 lo_1 d (qhi, rest, q, i)) (spec_l02Divide.heap5 lo_1 d (qhi, rest, q, i)) K = spec_l02Divide.lt5 lo_1 d qhi rest q i (sumK (fun v => loopN Tryz.prog 0 spec_l02Divide.ls k (exec Tryz.prog (tab (P := Tryz.prog) []) 0 51 0 spec_l02Divide.ls (lam [spec_l02Divide.L5]) (cOf Tryz.f168 0)) (spec_l02Divide.env5 lo_1 d v) (spec_l02Divide.heap5 lo_1 d v) K) (fun v => K (.exit 0) (spec_l02Divide.env5 lo_1 d v) (spec_l02Divide.heap5 lo_1 d v))) := by kernel_rfl
theorem spec_l02Divide.dec5 (lo_1 : Int) (d : Int) (v : Int × Int × Int × Int) (hv : -1 ≤ v.2.2.2 ∧ v.2.2.2 ≤ 63) (v' : Int × Int × Int × Int) (hr : spec_l02Divide.rnd5 lo_1 d v.1 v.2.1 v.2.2.1 v.2.2.2 = Sum.inl v') : (-1 ≤ v'.2.2.2 ∧ v'.2.2.2 ≤ 63) ∧ (v'.2.2.2 + 1).toNat < (v.2.2.2 + 1).toNat := by
  simp only [spec_l02Divide.rnd5, Bool.cond_eq_ite, decide_eq_true_eq] at hr
  have e : w64 (v.2.2.2 - 1) = v.2.2.2 - 1 := w64_id (by omega) (by omega)
  (repeat' split at hr) <;> cases hr <;> (simp only [e]; omega)
theorem spec_l02Divide.to5 : spec_l02Divide.L5.Ok Tryz.prog (tab (P := Tryz.prog) []) 0 51 0 spec_l02Divide.ls (lam [spec_l02Divide.L5]) (cOf Tryz.f168 0) := by
  intro R tm σ K r h
  simp only [spec_l02Divide.L5] at h
  split at h
  case h_2 => simp at h
  split at h
  case h_2 => simp at h
  rename_i lo_1 d qhi rest q i _ hc
  exact ⟨_, _, _, h, loop_to (x := 0) (rnd := (fun v : Int × Int × Int × Int => spec_l02Divide.rnd5 lo_1 d v.1 v.2.1 v.2.2.1 v.2.2.2)) (env := fun v : Int × Int × Int × Int => spec_l02Divide.env5 lo_1 d v) (heap := fun v : Int × Int × Int × Int => spec_l02Divide.heap5 lo_1 d v) (Inv := (fun v : Int × Int × Int × Int => -1 ≤ v.2.2.2 ∧ v.2.2.2 ≤ 63)) (μ := (fun v : Int × Int × Int × Int => (v.2.2.2 + 1).toNat)) (fun v hv k R K => (spec_l02Divide.step5 lo_1 d v.1 v.2.1 v.2.2.1 v.2.2.2 k R K).trans (spec_l02Divide.lt5_eq lo_1 d v.1 v.2.1 v.2.2.1 v.2.2.2 hv (sumK (fun v => loopN Tryz.prog 0 spec_l02Divide.ls k (exec Tryz.prog (tab (P := Tryz.prog) []) 0 51 0 spec_l02Divide.ls (lam [spec_l02Divide.L5]) (cOf Tryz.f168 0)) (spec_l02Divide.env5 lo_1 d v) (spec_l02Divide.heap5 lo_1 d v) K) (fun v => K (.exit 0) (spec_l02Divide.env5 lo_1 d v) (spec_l02Divide.heap5 lo_1 d v))))) (fun v hv v' hr => spec_l02Divide.dec5 lo_1 d v hv v' hr) 65 (qhi, rest, q, i) (by have := of_decide_eq_true hc; simp only []; omega) (by have := of_decide_eq_true hc; simp only []; omega)⟩
theorem spec_l02Divide.lok : ∀ c, Tryz.f168.body = some c → LamOk Tryz.prog (tab (P := Tryz.prog) []) 0 Tryz.f168.ntmps 0 spec_l02Divide.ls (lam [spec_l02Divide.L5]) (loopsOf c) := by
  intro c hc
  have hb : loopsOf c = [(cOf Tryz.f168 0)] := by
    have h : loopsOf (Tryz.f168.body.getD .skip) = [(cOf Tryz.f168 0)] := by kernel_rfl
    rw [hc] at h
    exact h
  exact lam_ok1 hb spec_l02Divide.to5
def spec_l02Divide.t {ρ : Type} (hi_0 : Int) (lo_1 : Int) (d : Int) (K : (Int × Int × Int) → Option ρ) : Option ρ := bif decide (d = 0) then none else (bif decide (d = 0) then none else (let t1 := (spec_l02Divide.fin5 lo_1 d ((u64 (Int.tdiv hi_0 d)), (Int.tmod hi_0 d), 0, 63)); K (t1.1, t1.2.2.1, t1.2.1)))
theorem spec_l02Divide.t_eq {ρ : Type} (hi_0 : Int) (lo_1 : Int) (d : Int) (hpre : ((d != 0)) = true) (K : (Int × Int × Int) → Option ρ) : spec_l02Divide.t hi_0 lo_1 d K = K (spec_l02Divide hi_0 lo_1 d) := cqF (by exact pd_ne hpre) (fun h0 => cqF (by exact pd_ne hpre) (fun h1 => rfl))
theorem spec_l02Divide.gives (hi_0 : Int) (lo_1 : Int) (d : Int) (hpre : ((d != 0)) = true) : GivesV Tryz.prog 168 [(cInt .u64).enc hi_0, (cInt .u64).enc lo_1, (cInt .u64).enc d] ((cT3 (cInt .u64) (cInt .u64) (cInt .u64)).enc (spec_l02Divide hi_0 lo_1 d)) :=
  givesL hmix [] 0 spec_l02Divide.ls (lam [spec_l02Divide.L5]) Tryz.func168 rfl rfl spec_l02Divide.lok ((by kernel_rfl : run1 Tryz.prog (tab []) 0 spec_l02Divide.ls (lam [spec_l02Divide.L5]) Tryz.f168 [(cInt .u64).enc hi_0, (cInt .u64).enc lo_1, (cInt .u64).enc d] [] = spec_l02Divide.t hi_0 lo_1 d fun r => some ((cT3 (cInt .u64) (cInt .u64) (cInt .u64)).enc r, [])).trans (spec_l02Divide.t_eq hi_0 lo_1 d hpre _))
def spec_l02Divide.e : Entry Tryz.prog := entry3P (cInt .u64) (cInt .u64) (cInt .u64) (cT3 (cInt .u64) (cInt .u64) (cInt .u64)) 168 spec_l02Divide (fun hi_0 lo_1 d => (d != 0)) spec_l02Divide.gives

/-! ### spec.l02Of -/
def spec_l02Of.t {ρ : Type} (n : Int) (K : Wd → Option ρ) : Option ρ := bif decide (n < 0) then (K (Wd.mk (-1) (u64 n))) else (K (Wd.mk 0 (u64 n)))
theorem spec_l02Of.t_eq {ρ : Type} (n : Int) (K : Wd → Option ρ) : spec_l02Of.t n K = K (spec_l02Of n) := cq (fun h0 => rfl) (fun h0 => rfl)
theorem spec_l02Of.gives (n : Int) : GivesV Tryz.prog 171 [(cInt .i64).enc n] (cWd.enc (spec_l02Of n)) :=
  givesT hmix [] 0 none Tryz.func171 rfl rfl ((by kernel_rfl : run1 Tryz.prog (tab []) 0 none noL Tryz.f171 [(cInt .i64).enc n] [] = spec_l02Of.t n fun r => some (cWd.enc r, [])).trans (spec_l02Of.t_eq n _))
def spec_l02Of.e : Entry Tryz.prog := entry1 (cInt .i64) cWd 171 spec_l02Of spec_l02Of.gives

/-! ### spec.l02Plus -/
def spec_l02Plus.t {ρ : Type} (a : Wd) (b : Wd) (K : Wd → Option ρ) : Option ρ := bif decide ((u64 (a.lo + b.lo)) < a.lo) then (K (Wd.mk (w64 ((w64 (a.hi + b.hi)) + 1)) (u64 (a.lo + b.lo)))) else (K (Wd.mk (w64 (a.hi + b.hi)) (u64 (a.lo + b.lo))))
theorem spec_l02Plus.t_eq {ρ : Type} (a : Wd) (b : Wd) (K : Wd → Option ρ) : spec_l02Plus.t a b K = K (spec_l02Plus a b) := cq (fun h0 => rfl) (fun h0 => rfl)
theorem spec_l02Plus.gives (a : Wd) (b : Wd) : GivesV Tryz.prog 170 [cWd.enc a, cWd.enc b] (cWd.enc (spec_l02Plus a b)) :=
  givesT hmix [] 0 none Tryz.func170 rfl rfl ((by kernel_rfl : run1 Tryz.prog (tab []) 0 none noL Tryz.f170 [cWd.enc a, cWd.enc b] [] = spec_l02Plus.t a b fun r => some (cWd.enc r, [])).trans (spec_l02Plus.t_eq a b _))
def spec_l02Plus.e : Entry Tryz.prog := entry2 cWd cWd cWd 170 spec_l02Plus spec_l02Plus.gives

/-! ### spec.l02Div -/
def spec_l02Div.t {ρ : Type} (w : Wd) (d : Int) (K : (Wd × Int) → Option ρ) : Option ρ := bif decide (w.hi ≥ 0) then (bif ((u64 d) != 0) then (let t1 := (spec_l02Divide (u64 w.hi) w.lo (u64 d)); K ((Wd.mk (w64 t1.1) t1.2.1), (w64 t1.2.2))) else none) else (let t2 := (spec_l02Minus w); bif ((u64 d) != 0) then (let t3 := (spec_l02Divide (u64 t2.hi) t2.lo (u64 d)); let t4 := (spec_l02Minus (Wd.mk (w64 t3.1) t3.2.1)); bif (t3.2.2 == 0) then (K (t4, 0)) else (K ((spec_l02Plus t4 (spec_l02Of (-1))), (w64 (d - (w64 t3.2.2)))))) else none)
theorem spec_l02Div.t_eq {ρ : Type} (w : Wd) (d : Int) (hpre : ((u64 d != 0)) = true) (K : (Wd × Int) → Option ρ) : spec_l02Div.t w d K = K (spec_l02Div w d) := cq (fun h0 => cqT (by exact hpre) (fun h1 => rfl)) (fun h0 => cqT (by exact hpre) (fun h1 => cq (fun h2 => rfl) (fun h2 => rfl)))
theorem spec_l02Div.gives (w : Wd) (d : Int) (hpre : ((u64 d != 0)) = true) : GivesV Tryz.prog 140 [cWd.enc w, (cInt .i64).enc d] ((cT2 cWd (cInt .i64)).enc (spec_l02Div w d)) :=
  givesT hmix [spec_l02Divide.e, spec_l02Minus.e, spec_l02Of.e, spec_l02Plus.e] 0 none Tryz.func140 rfl rfl ((by kernel_rfl : run1 Tryz.prog (tab [spec_l02Divide.e, spec_l02Minus.e, spec_l02Of.e, spec_l02Plus.e]) 0 none noL Tryz.f140 [cWd.enc w, (cInt .i64).enc d] [] = spec_l02Div.t w d fun r => some ((cT2 cWd (cInt .i64)).enc r, [])).trans (spec_l02Div.t_eq w d hpre _))
def spec_l02Div.e : Entry Tryz.prog := entry2P cWd (cInt .i64) (cT2 cWd (cInt .i64)) 140 spec_l02Div (fun w d => (u64 d != 0)) spec_l02Div.gives

/-! ### spec.l02Int -/
def spec_l02Int.t {ρ : Type} (w : Wd) (K : (Int × Bool) → Option ρ) : Option ρ := let t1 := (spec_l02Of (w64 w.lo)); bif (!((t1.hi == w.hi) && (t1.lo == w.lo))) then (K (0, false)) else (K ((w64 w.lo), true))
theorem spec_l02Int.t_eq {ρ : Type} (w : Wd) (K : (Int × Bool) → Option ρ) : spec_l02Int.t w K = K (spec_l02Int w) := cq (fun h0 => rfl) (fun h0 => rfl)
theorem spec_l02Int.gives (w : Wd) : GivesV Tryz.prog 142 [cWd.enc w] ((cT2 (cInt .i64) cBool).enc (spec_l02Int w)) :=
  givesT hmix [spec_l02Of.e] 0 none Tryz.func142 rfl rfl ((by kernel_rfl : run1 Tryz.prog (tab [spec_l02Of.e]) 0 none noL Tryz.f142 [cWd.enc w] [] = spec_l02Int.t w fun r => some ((cT2 (cInt .i64) cBool).enc r, [])).trans (spec_l02Int.t_eq w _))
def spec_l02Int.e : Entry Tryz.prog := entry1 cWd (cT2 (cInt .i64) cBool) 142 spec_l02Int spec_l02Int.gives

/-! ### spec.MulDivFloor -/
def spec_MulDivFloor.t {ρ : Type} (a : Int) (b : Int) (d : Int) (K : (Int × Bool) → Option ρ) : Option ρ := bif decide (d ≤ 0) then (K (0, false)) else (bif (u64 d != 0) then (let t3 := (spec_l02Int (spec_l02Div (spec_l02Mul a b) d).1); K (t3.1, t3.2)) else none)
theorem spec_MulDivFloor.t_eq {ρ : Type} (a : Int) (b : Int) (d : Int) (hpre : (decide (d ≤ 9223372036854775807)) = true) (K : (Int × Bool) → Option ρ) : spec_MulDivFloor.t a b d K = K (spec_MulDivFloor a b d) := cq (fun h0 => rfl) (fun h0 => cqT (by exact pd_u hpre h0) (fun h1 => rfl))
theorem spec_MulDivFloor.gives (a : Int) (b : Int) (d : Int) (hpre : (decide (d ≤ 9223372036854775807)) = true) : GivesV Tryz.prog 115 [(cInt .i64).enc a, (cInt .i64).enc b, (cInt .i64).enc d] ((cT2 (cInt .i64) cBool).enc (spec_MulDivFloor a b d)) :=
  givesT hmix [spec_l02Mul.e, spec_l02Div.e, spec_l02Int.e] 0 none Tryz.func115 rfl rfl ((by kernel_rfl : run1 Tryz.prog (tab [spec_l02Mul.e, spec_l02Div.e, spec_l02Int.e]) 0 none noL Tryz.f115 [(cInt .i64).enc a, (cInt .i64).enc b, (cInt .i64).enc d] [] = spec_MulDivFloor.t a b d fun r => some ((cT2 (cInt .i64) cBool).enc r, [])).trans (spec_MulDivFloor.t_eq a b d hpre _))
def spec_MulDivFloor.e : Entry Tryz.prog := entry3P (cInt .i64) (cInt .i64) (cInt .i64) (cT2 (cInt .i64) cBool) 115 spec_MulDivFloor (fun a b d => decide (d ≤ 9223372036854775807)) spec_MulDivFloor.gives

/-! ### spec.l03Ok -/
def spec_l03Ok.t {ρ : Type} (n : Int) (K : Bool → Option ρ) : Option ρ := K (spec_l00In n (-1152921504606846976) 1152921504606846976)
theorem spec_l03Ok.t_eq {ρ : Type} (n : Int) (K : Bool → Option ρ) : spec_l03Ok.t n K = K (spec_l03Ok n) := rfl
theorem spec_l03Ok.gives (n : Int) : GivesV Tryz.prog 114 [(cInt .i64).enc n] (cBool.enc (spec_l03Ok n)) :=
  givesT hmix [spec_l00In.e] 0 none Tryz.func114 rfl rfl ((by kernel_rfl : run1 Tryz.prog (tab [spec_l00In.e]) 0 none noL Tryz.f114 [(cInt .i64).enc n] [] = spec_l03Ok.t n fun r => some (cBool.enc r, [])).trans (spec_l03Ok.t_eq n _))
def spec_l03Ok.e : Entry Tryz.prog := entry1 (cInt .i64) cBool 114 spec_l03Ok spec_l03Ok.gives

/-! ### spec.l03End -/
def spec_l03End.t {ρ : Type} (n : Int) (ok : Bool) (K : (Int × Bool) → Option ρ) : Option ρ := bif (!ok) then (K (0, false)) else (bif (!(spec_l03Ok n)) then (K (0, false)) else (K (n, true)))
theorem spec_l03End.t_eq {ρ : Type} (n : Int) (ok : Bool) (K : (Int × Bool) → Option ρ) : spec_l03End.t n ok K = K (spec_l03End n ok) := cq (fun h0 => rfl) (fun h0 => cq (fun h1 => rfl) (fun h1 => rfl))
theorem spec_l03End.gives (n : Int) (ok : Bool) : GivesV Tryz.prog 116 [(cInt .i64).enc n, cBool.enc ok] ((cT2 (cInt .i64) cBool).enc (spec_l03End n ok)) :=
  givesT hmix [spec_l03Ok.e] 0 none Tryz.func116 rfl rfl ((by kernel_rfl : run1 Tryz.prog (tab [spec_l03Ok.e]) 0 none noL Tryz.f116 [(cInt .i64).enc n, cBool.enc ok] [] = spec_l03End.t n ok fun r => some ((cT2 (cInt .i64) cBool).enc r, [])).trans (spec_l03End.t_eq n ok _))
def spec_l03End.e : Entry Tryz.prog := entry2 (cInt .i64) cBool (cT2 (cInt .i64) cBool) 116 spec_l03End spec_l03End.gives

/-! ### spec.l03Floor -/
def spec_l03Floor.t {ρ : Type} (num : Int) (den : Int) (K : (Int × Bool) → Option ρ) : Option ρ := bif decide (den ≤ 0) then (K (0, false)) else (bif decide (den ≤ 9223372036854775807) then (let t1 := (spec_MulDivFloor num 4294967296 den); let t2 := (spec_l03End t1.1 t1.2); K (t2.1, t2.2)) else none)
theorem spec_l03Floor.t_eq {ρ : Type} (num : Int) (den : Int) (hpre : (decide (den ≤ 9223372036854775807)) = true) (K : (Int × Bool) → Option ρ) : spec_l03Floor.t num den K = K (spec_l03Floor num den) := cq (fun h0 => rfl) (fun h0 => cqT (by first | exact u64_neg _ | (simp only [decide_eq_true_eq, decide_eq_false_iff_not] at *; omega) | (simp only [Bool.not_eq_eq_eq_not, Bool.not_false, inside_iff, l00In_iff, decide_eq_true_eq, decide_eq_false_iff_not, w64_def, u64_def] at *; omega)) (fun h1 => rfl))
theorem spec_l03Floor.gives (num : Int) (den : Int) (hpre : (decide (den ≤ 9223372036854775807)) = true) : GivesV Tryz.prog 107 [(cInt .i64).enc num, (cInt .i64).enc den] ((cT2 (cInt .i64) cBool).enc (spec_l03Floor num den)) :=
  givesT hmix [spec_MulDivFloor.e, spec_l03End.e] 0 none Tryz.func107 rfl rfl ((by kernel_rfl : run1 Tryz.prog (tab [spec_MulDivFloor.e, spec_l03End.e]) 0 none noL Tryz.f107 [(cInt .i64).enc num, (cInt .i64).enc den] [] = spec_l03Floor.t num den fun r => some ((cT2 (cInt .i64) cBool).enc r, [])).trans (spec_l03Floor.t_eq num den hpre _))
def spec_l03Floor.e : Entry Tryz.prog := entry2P (cInt .i64) (cInt .i64) (cT2 (cInt .i64) cBool) 107 spec_l03Floor (fun num den => decide (den ≤ 9223372036854775807)) spec_l03Floor.gives

/-! ### spec.l03Ceil -/
def spec_l03Ceil.t {ρ : Type} (num : Int) (den : Int) (K : (Int × Bool) → Option ρ) : Option ρ := bif decide (den ≤ 0) then (K (0, false)) else (bif decide (den ≤ 9223372036854775807) then (let t1 := (spec_MulDivFloor num 4294967296 den); bif (!t1.2) then (K (0, false)) else (bif ((w64 (t1.1 * den)) != (w64 (num * 4294967296))) then (let t2 := (spec_l03End (w64 (t1.1 + 1)) true); K (t2.1, t2.2)) else (let t3 := (spec_l03End t1.1 true); K (t3.1, t3.2)))) else none)
theorem spec_l03Ceil.t_eq {ρ : Type} (num : Int) (den : Int) (hpre : (decide (den ≤ 9223372036854775807)) = true) (K : (Int × Bool) → Option ρ) : spec_l03Ceil.t num den K = K (spec_l03Ceil num den) := cq (fun h0 => rfl) (fun h0 => cqT (by first | exact u64_neg _ | (simp only [decide_eq_true_eq, decide_eq_false_iff_not] at *; omega) | (simp only [Bool.not_eq_eq_eq_not, Bool.not_false, inside_iff, l00In_iff, decide_eq_true_eq, decide_eq_false_iff_not, w64_def, u64_def] at *; omega)) (fun h1 => cq (fun h2 => rfl) (fun h2 => cq (fun h3 => rfl) (fun h3 => rfl))))
theorem spec_l03Ceil.gives (num : Int) (den : Int) (hpre : (decide (den ≤ 9223372036854775807)) = true) : GivesV Tryz.prog 108 [(cInt .i64).enc num, (cInt .i64).enc den] ((cT2 (cInt .i64) cBool).enc (spec_l03Ceil num den)) :=
  givesT hmix [spec_MulDivFloor.e, spec_l03End.e] 0 none Tryz.func108 rfl rfl ((by kernel_rfl : run1 Tryz.prog (tab [spec_MulDivFloor.e, spec_l03End.e]) 0 none noL Tryz.f108 [(cInt .i64).enc num, (cInt .i64).enc den] [] = spec_l03Ceil.t num den fun r => some ((cT2 (cInt .i64) cBool).enc r, [])).trans (spec_l03Ceil.t_eq num den hpre _))
def spec_l03Ceil.e : Entry Tryz.prog := entry2P (cInt .i64) (cInt .i64) (cT2 (cInt .i64) cBool) 108 spec_l03Ceil (fun num den => decide (den ≤ 9223372036854775807)) spec_l03Ceil.gives

/-! ### spec.Quotient -/
def spec_Quotient.t {ρ : Type} (num : Int) (den : Int) (K : Iv → Option ρ) : Option ρ := bif decide (den < 0) then (bif (num == (-9223372036854775808)) then (K spec_l04Whole) else (bif (den == (-9223372036854775808)) then (K spec_l04Whole) else (bif decide ((w64 (0 - den)) ≤ 9223372036854775807) then (let t3 := (spec_l03Floor (w64 (0 - num)) (w64 (0 - den))); bif decide ((w64 (0 - den)) ≤ 9223372036854775807) then (let t4 := (spec_l03Ceil (w64 (0 - num)) (w64 (0 - den))); bif (!t3.2) then (K spec_l04Whole) else (bif (!t4.2) then (K spec_l04Whole) else (K (spec_l04Make t3.1 t4.1)))) else none) else none))) else (bif decide (den ≤ 9223372036854775807) then (let t8 := (spec_l03Floor num den); bif decide (den ≤ 9223372036854775807) then (let t9 := (spec_l03Ceil num den); bif (!t8.2) then (K spec_l04Whole) else (bif (!t9.2) then (K spec_l04Whole) else (K (spec_l04Make t8.1 t9.1)))) else none) else none)
theorem spec_Quotient.t_eq {ρ : Type} (num : Int) (den : Int) (hpre : (decide (-9223372036854775808 ≤ den ∧ den ≤ 9223372036854775807)) = true) (K : Iv → Option ρ) : spec_Quotient.t num den K = K (spec_Quotient num den) := cq (fun h0 => cq (fun h1 => rfl) (fun h1 => cq (fun h2 => rfl) (fun h2 => cqT (by first | exact u64_neg _ | (simp only [decide_eq_true_eq, decide_eq_false_iff_not] at *; omega) | (simp only [Bool.not_eq_eq_eq_not, Bool.not_false, inside_iff, l00In_iff, decide_eq_true_eq, decide_eq_false_iff_not, w64_def, u64_def] at *; omega)) (fun h3 => cqT (by first | exact u64_neg _ | (simp only [decide_eq_true_eq, decide_eq_false_iff_not] at *; omega) | (simp only [Bool.not_eq_eq_eq_not, Bool.not_false, inside_iff, l00In_iff, decide_eq_true_eq, decide_eq_false_iff_not, w64_def, u64_def] at *; omega)) (fun h4 => cq (fun h5 => rfl) (fun h5 => cq (fun h6 => rfl) (fun h6 => rfl))))))) (fun h0 => cqT (by first | exact u64_neg _ | (simp only [decide_eq_true_eq, decide_eq_false_iff_not] at *; omega) | (simp only [Bool.not_eq_eq_eq_not, Bool.not_false, inside_iff, l00In_iff, decide_eq_true_eq, decide_eq_false_iff_not, w64_def, u64_def] at *; omega)) (fun h1 => cqT (by first | exact u64_neg _ | (simp only [decide_eq_true_eq, decide_eq_false_iff_not] at *; omega) | (simp only [Bool.not_eq_eq_eq_not, Bool.not_false, inside_iff, l00In_iff, decide_eq_true_eq, decide_eq_false_iff_not, w64_def, u64_def] at *; omega)) (fun h2 => cq (fun h3 => rfl) (fun h3 => cq (fun h4 => rfl) (fun h4 => rfl)))))
theorem spec_Quotient.gives (num : Int) (den : Int) (hpre : (decide (-9223372036854775808 ≤ den ∧ den ≤ 9223372036854775807)) = true) : GivesV Tryz.prog 70 [(cInt .i64).enc num, (cInt .i64).enc den] (cIv.enc (spec_Quotient num den)) :=
  givesT hmix [spec_l04Whole.e, spec_l03Floor.e, spec_l03Ceil.e, spec_l04Make.e] 0 none Tryz.func70 rfl rfl ((by kernel_rfl : run1 Tryz.prog (tab [spec_l04Whole.e, spec_l03Floor.e, spec_l03Ceil.e, spec_l04Make.e]) 0 none noL Tryz.f70 [(cInt .i64).enc num, (cInt .i64).enc den] [] = spec_Quotient.t num den fun r => some (cIv.enc r, [])).trans (spec_Quotient.t_eq num den hpre _))
def spec_Quotient.e : Entry Tryz.prog := entry2P (cInt .i64) (cInt .i64) cIv 70 spec_Quotient (fun num den => decide (-9223372036854775808 ≤ den ∧ den ≤ 9223372036854775807)) spec_Quotient.gives

/-! ### spec.ThirdI -/
def spec_ThirdI.t {ρ : Type} (e_0 : El) (K : Iv → Option ρ) : Option ρ := bif (!(spec_l12Ok e_0)) then (K spec_l04Whole) else (bif decide (-9223372036854775808 ≤ (w64 ((w64 (2 * e_0.den)) - e_0.num)) ∧ (w64 ((w64 (2 * e_0.den)) - e_0.num)) ≤ 9223372036854775807) then (K (spec_Quotient e_0.num (w64 ((w64 (2 * e_0.den)) - e_0.num)))) else none)
theorem spec_ThirdI.t_eq {ρ : Type} (e_0 : El) (K : Iv → Option ρ) : spec_ThirdI.t e_0 K = K (spec_ThirdI e_0) := cq (fun h0 => rfl) (fun h0 => cqT (by exact q_w64 _) (fun h1 => rfl))
theorem spec_ThirdI.gives (e_0 : El) : GivesV Tryz.prog 68 [cEl.enc e_0] (cIv.enc (spec_ThirdI e_0)) :=
  givesT hmix [spec_l12Ok.e, spec_l04Whole.e, spec_Quotient.e] 0 none Tryz.func68 rfl rfl ((by kernel_rfl : run1 Tryz.prog (tab [spec_l12Ok.e, spec_l04Whole.e, spec_Quotient.e]) 0 none noL Tryz.f68 [cEl.enc e_0] [] = spec_ThirdI.t e_0 fun r => some (cIv.enc r, [])).trans (spec_ThirdI.t_eq e_0 _))
def spec_ThirdI.e : Entry Tryz.prog := entry1 cEl cIv 68 spec_ThirdI spec_ThirdI.gives

/-! ### spec.l00Max -/
def spec_l00Max.t {ρ : Type} (a : Int) (b : Int) (K : Int → Option ρ) : Option ρ := bif decide (a > b) then (K a) else (K b)
theorem spec_l00Max.t_eq {ρ : Type} (a : Int) (b : Int) (K : Int → Option ρ) : spec_l00Max.t a b K = K (spec_l00Max a b) := cq (fun h0 => rfl) (fun h0 => rfl)
theorem spec_l00Max.gives (a : Int) (b : Int) : GivesV Tryz.prog 86 [(cInt .i64).enc a, (cInt .i64).enc b] ((cInt .i64).enc (spec_l00Max a b)) :=
  givesT hmix [] 0 none Tryz.func86 rfl rfl ((by kernel_rfl : run1 Tryz.prog (tab []) 0 none noL Tryz.f86 [(cInt .i64).enc a, (cInt .i64).enc b] [] = spec_l00Max.t a b fun r => some ((cInt .i64).enc r, [])).trans (spec_l00Max.t_eq a b _))
def spec_l00Max.e : Entry Tryz.prog := entry2 (cInt .i64) (cInt .i64) (cInt .i64) 86 spec_l00Max spec_l00Max.gives

/-! ### spec.l04Has -/
def spec_l04Has.t {ρ : Type} (a : Iv) (n : Int) (K : Bool → Option ρ) : Option ρ := K (spec_l00In n a.lo a.hi)
theorem spec_l04Has.t_eq {ρ : Type} (a : Iv) (n : Int) (K : Bool → Option ρ) : spec_l04Has.t a n K = K (spec_l04Has a n) := rfl
theorem spec_l04Has.gives (a : Iv) (n : Int) : GivesV Tryz.prog 82 [cIv.enc a, (cInt .i64).enc n] (cBool.enc (spec_l04Has a n)) :=
  givesT hmix [spec_l00In.e] 0 none Tryz.func82 rfl rfl ((by kernel_rfl : run1 Tryz.prog (tab [spec_l00In.e]) 0 none noL Tryz.f82 [cIv.enc a, (cInt .i64).enc n] [] = spec_l04Has.t a n fun r => some (cBool.enc r, [])).trans (spec_l04Has.t_eq a n _))
def spec_l04Has.e : Entry Tryz.prog := entry2 cIv (cInt .i64) cBool 82 spec_l04Has spec_l04Has.gives

/-! ### spec.l00Min -/
def spec_l00Min.t {ρ : Type} (a : Int) (b : Int) (K : Int → Option ρ) : Option ρ := bif decide (a < b) then (K a) else (K b)
theorem spec_l00Min.t_eq {ρ : Type} (a : Int) (b : Int) (K : Int → Option ρ) : spec_l00Min.t a b K = K (spec_l00Min a b) := cq (fun h0 => rfl) (fun h0 => rfl)
theorem spec_l00Min.gives (a : Int) (b : Int) : GivesV Tryz.prog 85 [(cInt .i64).enc a, (cInt .i64).enc b] ((cInt .i64).enc (spec_l00Min a b)) :=
  givesT hmix [] 0 none Tryz.func85 rfl rfl ((by kernel_rfl : run1 Tryz.prog (tab []) 0 none noL Tryz.f85 [(cInt .i64).enc a, (cInt .i64).enc b] [] = spec_l00Min.t a b fun r => some ((cInt .i64).enc r, [])).trans (spec_l00Min.t_eq a b _))
def spec_l00Min.e : Entry Tryz.prog := entry2 (cInt .i64) (cInt .i64) (cInt .i64) 85 spec_l00Min spec_l00Min.gives

/-! ### spec.l04Ends -/
def spec_l04Ends.t {ρ : Type} (a : Iv) (K : (Int × Int) → Option ρ) : Option ρ := let t1 := (spec_l00Max a.lo (w64 (0 - a.lo))); let t2 := (spec_l00Max a.hi (w64 (0 - a.hi))); bif (spec_l04Has a 0) then (K (0, (spec_l00Max t1 t2))) else (K ((spec_l00Min t1 t2), (spec_l00Max t1 t2)))
theorem spec_l04Ends.t_eq {ρ : Type} (a : Iv) (K : (Int × Int) → Option ρ) : spec_l04Ends.t a K = K (spec_l04Ends a) := cq (fun h0 => rfl) (fun h0 => rfl)
theorem spec_l04Ends.gives (a : Iv) : GivesV Tryz.prog 106 [cIv.enc a] ((cT2 (cInt .i64) (cInt .i64)).enc (spec_l04Ends a)) :=
  givesT hmix [spec_l00Max.e, spec_l04Has.e, spec_l00Min.e] 0 none Tryz.func106 rfl rfl ((by kernel_rfl : run1 Tryz.prog (tab [spec_l00Max.e, spec_l04Has.e, spec_l00Min.e]) 0 none noL Tryz.f106 [cIv.enc a] [] = spec_l04Ends.t a fun r => some ((cT2 (cInt .i64) (cInt .i64)).enc r, [])).trans (spec_l04Ends.t_eq a _))
def spec_l04Ends.e : Entry Tryz.prog := entry1 cIv (cT2 (cInt .i64) (cInt .i64)) 106 spec_l04Ends spec_l04Ends.gives

/-! ### spec.l02Shift -/
def spec_l02Shift.t {ρ : Type} (w : Wd) (n : Int) (K : Wd → Option ρ) : Option ρ := bif (n == 0) then (K w) else (bif decide (n < 64) then (bif decide ((u64 n) < 0) then none else (bif decide ((u64 n) < 0) then none else (bif decide ((u64 (w64 (64 - n))) < 0) then none else (K (Wd.mk (Int.fdiv w.hi (2 ^ (min (Int.toNat (u64 n)) 64))) (orI .u64 (Int.fdiv w.lo (2 ^ (min (Int.toNat (u64 n)) 64))) (u64 ((u64 w.hi) * (2 ^ (min (Int.toNat (u64 (w64 (64 - n)))) 64)))))))))) else (bif decide ((u64 (w64 (n - 64))) < 0) then none else (K (Wd.mk (Int.fdiv w.hi 9223372036854775808) (u64 (Int.fdiv w.hi (2 ^ (min (Int.toNat (u64 (w64 (n - 64)))) 64))))))))
theorem spec_l02Shift.t_eq {ρ : Type} (w : Wd) (n : Int) (K : Wd → Option ρ) : spec_l02Shift.t w n K = K (spec_l02Shift w n) := cq (fun h0 => rfl) (fun h0 => cq (fun h1 => cqF (by first | exact u64_neg _ | (simp only [decide_eq_true_eq, decide_eq_false_iff_not] at *; omega) | (simp only [Bool.not_eq_eq_eq_not, Bool.not_false, inside_iff, l00In_iff, decide_eq_true_eq, decide_eq_false_iff_not, w64_def, u64_def] at *; omega)) (fun h2 => cqF (by first | exact u64_neg _ | (simp only [decide_eq_true_eq, decide_eq_false_iff_not] at *; omega) | (simp only [Bool.not_eq_eq_eq_not, Bool.not_false, inside_iff, l00In_iff, decide_eq_true_eq, decide_eq_false_iff_not, w64_def, u64_def] at *; omega)) (fun h3 => cqF (by first | exact u64_neg _ | (simp only [decide_eq_true_eq, decide_eq_false_iff_not] at *; omega) | (simp only [Bool.not_eq_eq_eq_not, Bool.not_false, inside_iff, l00In_iff, decide_eq_true_eq, decide_eq_false_iff_not, w64_def, u64_def] at *; omega)) (fun h4 => rfl)))) (fun h1 => cqF (by first | exact u64_neg _ | (simp only [decide_eq_true_eq, decide_eq_false_iff_not] at *; omega) | (simp only [Bool.not_eq_eq_eq_not, Bool.not_false, inside_iff, l00In_iff, decide_eq_true_eq, decide_eq_false_iff_not, w64_def, u64_def] at *; omega)) (fun h2 => rfl)))
theorem spec_l02Shift.gives (w : Wd) (n : Int) : GivesV Tryz.prog 144 [cWd.enc w, (cInt .i64).enc n] (cWd.enc (spec_l02Shift w n)) :=
  givesT hmix [] 0 none Tryz.func144 rfl rfl ((by kernel_rfl : run1 Tryz.prog (tab []) 0 none noL Tryz.f144 [cWd.enc w, (cInt .i64).enc n] [] = spec_l02Shift.t w n fun r => some (cWd.enc r, [])).trans (spec_l02Shift.t_eq w n _))
def spec_l02Shift.e : Entry Tryz.prog := entry2 cWd (cInt .i64) cWd 144 spec_l02Shift spec_l02Shift.gives

/-! ### spec.MulFloor -/
def spec_MulFloor.t {ρ : Type} (a : Int) (b : Int) (shift : Int) (K : (Int × Bool) → Option ρ) : Option ρ := bif (!(spec_l00In shift 0 126)) then (K (0, false)) else (let t4 := (spec_l02Int (spec_l02Shift (spec_l02Mul a b) shift)); K (t4.1, t4.2))
theorem spec_MulFloor.t_eq {ρ : Type} (a : Int) (b : Int) (shift : Int) (K : (Int × Bool) → Option ρ) : spec_MulFloor.t a b shift K = K (spec_MulFloor a b shift) := cq (fun h0 => rfl) (fun h0 => rfl)
theorem spec_MulFloor.gives (a : Int) (b : Int) (shift : Int) : GivesV Tryz.prog 118 [(cInt .i64).enc a, (cInt .i64).enc b, (cInt .i64).enc shift] ((cT2 (cInt .i64) cBool).enc (spec_MulFloor a b shift)) :=
  givesT hmix [spec_l00In.e, spec_l02Mul.e, spec_l02Shift.e, spec_l02Int.e] 0 none Tryz.func118 rfl rfl ((by kernel_rfl : run1 Tryz.prog (tab [spec_l00In.e, spec_l02Mul.e, spec_l02Shift.e, spec_l02Int.e]) 0 none noL Tryz.f118 [(cInt .i64).enc a, (cInt .i64).enc b, (cInt .i64).enc shift] [] = spec_MulFloor.t a b shift fun r => some ((cT2 (cInt .i64) cBool).enc r, [])).trans (spec_MulFloor.t_eq a b shift _))
def spec_MulFloor.e : Entry Tryz.prog := entry3 (cInt .i64) (cInt .i64) (cInt .i64) (cT2 (cInt .i64) cBool) 118 spec_MulFloor spec_MulFloor.gives

/-! ### spec.l03MulDown -/
def spec_l03MulDown.t {ρ : Type} (a : Int) (b : Int) (K : (Int × Bool) → Option ρ) : Option ρ := bif (!(spec_l03Ok a)) then (K (0, false)) else (bif (!(spec_l03Ok b)) then (K (0, false)) else (let t3 := (spec_MulFloor a b 32); let t4 := (spec_l03End t3.1 t3.2); K (t4.1, t4.2)))
theorem spec_l03MulDown.t_eq {ρ : Type} (a : Int) (b : Int) (K : (Int × Bool) → Option ρ) : spec_l03MulDown.t a b K = K (spec_l03MulDown a b) := cq (fun h0 => rfl) (fun h0 => cq (fun h1 => rfl) (fun h1 => rfl))
theorem spec_l03MulDown.gives (a : Int) (b : Int) : GivesV Tryz.prog 98 [(cInt .i64).enc a, (cInt .i64).enc b] ((cT2 (cInt .i64) cBool).enc (spec_l03MulDown a b)) :=
  givesT hmix [spec_l03Ok.e, spec_MulFloor.e, spec_l03End.e] 0 none Tryz.func98 rfl rfl ((by kernel_rfl : run1 Tryz.prog (tab [spec_l03Ok.e, spec_MulFloor.e, spec_l03End.e]) 0 none noL Tryz.f98 [(cInt .i64).enc a, (cInt .i64).enc b] [] = spec_l03MulDown.t a b fun r => some ((cT2 (cInt .i64) cBool).enc r, [])).trans (spec_l03MulDown.t_eq a b _))
def spec_l03MulDown.e : Entry Tryz.prog := entry2 (cInt .i64) (cInt .i64) (cT2 (cInt .i64) cBool) 98 spec_l03MulDown spec_l03MulDown.gives

/-! ### spec.l03MulUp -/
def spec_l03MulUp.t {ρ : Type} (a : Int) (b : Int) (K : (Int × Bool) → Option ρ) : Option ρ := let t1 := (spec_l03MulDown (w64 (0 - a)) b); bif (!(spec_l03Ok a)) then (K (0, false)) else (bif (!t1.2) then (K (0, false)) else (K ((w64 (0 - t1.1)), true)))
theorem spec_l03MulUp.t_eq {ρ : Type} (a : Int) (b : Int) (K : (Int × Bool) → Option ρ) : spec_l03MulUp.t a b K = K (spec_l03MulUp a b) := cq (fun h0 => rfl) (fun h0 => cq (fun h1 => rfl) (fun h1 => rfl))
theorem spec_l03MulUp.gives (a : Int) (b : Int) : GivesV Tryz.prog 99 [(cInt .i64).enc a, (cInt .i64).enc b] ((cT2 (cInt .i64) cBool).enc (spec_l03MulUp a b)) :=
  givesT hmix [spec_l03MulDown.e, spec_l03Ok.e] 0 none Tryz.func99 rfl rfl ((by kernel_rfl : run1 Tryz.prog (tab [spec_l03MulDown.e, spec_l03Ok.e]) 0 none noL Tryz.f99 [(cInt .i64).enc a, (cInt .i64).enc b] [] = spec_l03MulUp.t a b fun r => some ((cT2 (cInt .i64) cBool).enc r, [])).trans (spec_l03MulUp.t_eq a b _))
def spec_l03MulUp.e : Entry Tryz.prog := entry2 (cInt .i64) (cInt .i64) (cT2 (cInt .i64) cBool) 99 spec_l03MulUp spec_l03MulUp.gives

/-! ### spec.SqrI -/
def spec_SqrI.t {ρ : Type} (a : Iv) (K : Iv → Option ρ) : Option ρ := bif (!(spec_l04Ok a)) then (K spec_l04Whole) else (let t3 := (spec_l04Ends a); let t4 := (spec_l03MulDown t3.1 t3.1); let t5 := (spec_l03MulUp t3.2 t3.2); bif (!t4.2) then (K spec_l04Whole) else (bif (!t5.2) then (K spec_l04Whole) else (K (spec_l04Make t4.1 t5.1))))
theorem spec_SqrI.t_eq {ρ : Type} (a : Iv) (K : Iv → Option ρ) : spec_SqrI.t a K = K (spec_SqrI a) := cq (fun h0 => rfl) (fun h0 => cq (fun h1 => rfl) (fun h1 => cq (fun h2 => rfl) (fun h2 => rfl)))
theorem spec_SqrI.gives (a : Iv) : GivesV Tryz.prog 69 [cIv.enc a] (cIv.enc (spec_SqrI a)) :=
  givesT hmix [spec_l04Ok.e, spec_l04Whole.e, spec_l04Ends.e, spec_l03MulDown.e, spec_l03MulUp.e, spec_l04Make.e] 0 none Tryz.func69 rfl rfl ((by kernel_rfl : run1 Tryz.prog (tab [spec_l04Ok.e, spec_l04Whole.e, spec_l04Ends.e, spec_l03MulDown.e, spec_l03MulUp.e, spec_l04Make.e]) 0 none noL Tryz.f69 [cIv.enc a] [] = spec_SqrI.t a fun r => some (cIv.enc r, [])).trans (spec_SqrI.t_eq a _))
def spec_SqrI.e : Entry Tryz.prog := entry1 cIv cIv 69 spec_SqrI spec_SqrI.gives

/-! ### spec.Integer -/
def spec_Integer.t {ρ : Type} (n : Int) (K : Iv → Option ρ) : Option ρ := bif (!(spec_l00In n (-268435455) 268435455)) then (K spec_l04Whole) else (K (spec_l04Make (w64 (n * 4294967296)) (w64 (n * 4294967296))))
theorem spec_Integer.t_eq {ρ : Type} (n : Int) (K : Iv → Option ρ) : spec_Integer.t n K = K (spec_Integer n) := cq (fun h0 => rfl) (fun h0 => rfl)
theorem spec_Integer.gives (n : Int) : GivesV Tryz.prog 53 [(cInt .i64).enc n] (cIv.enc (spec_Integer n)) :=
  givesT hmix [spec_l00In.e, spec_l04Whole.e, spec_l04Make.e] 0 none Tryz.func53 rfl rfl ((by kernel_rfl : run1 Tryz.prog (tab [spec_l00In.e, spec_l04Whole.e, spec_l04Make.e]) 0 none noL Tryz.f53 [(cInt .i64).enc n] [] = spec_Integer.t n fun r => some (cIv.enc r, [])).trans (spec_Integer.t_eq n _))
def spec_Integer.e : Entry Tryz.prog := entry1 (cInt .i64) cIv 53 spec_Integer spec_Integer.gives

/-! ### spec.l03DivDown -/
def spec_l03DivDown.t {ρ : Type} (a : Int) (b : Int) (K : (Int × Bool) → Option ρ) : Option ρ := bif (!(spec_l03Ok a)) then (K (0, false)) else (bif (!(spec_l03Ok b)) then (K (0, false)) else (bif (b == 0) then (K (0, false)) else (bif decide (b < 0) then (bif decide ((w64 (0 - b)) ≤ 9223372036854775807) then (let t3 := (spec_MulDivFloor (w64 (0 - a)) 4294967296 (w64 (0 - b))); let t4 := (spec_l03End t3.1 t3.2); K (t4.1, t4.2)) else none) else (bif decide (b ≤ 9223372036854775807) then (let t5 := (spec_MulDivFloor a 4294967296 b); let t6 := (spec_l03End t5.1 t5.2); K (t6.1, t6.2)) else none))))
theorem spec_l03DivDown.t_eq {ρ : Type} (a : Int) (b : Int) (K : (Int × Bool) → Option ρ) : spec_l03DivDown.t a b K = K (spec_l03DivDown a b) := cq (fun h0 => rfl) (fun h0 => cq (fun h1 => rfl) (fun h1 => cq (fun h2 => rfl) (fun h2 => cq (fun h3 => cqT (by first | exact decide_eq_true (w64_le _) | exact pd_fix' h1) (fun h4 => rfl)) (fun h3 => cqT (by first | exact decide_eq_true (w64_le _) | exact pd_fix' h1) (fun h4 => rfl)))))
theorem spec_l03DivDown.gives (a : Int) (b : Int) : GivesV Tryz.prog 83 [(cInt .i64).enc a, (cInt .i64).enc b] ((cT2 (cInt .i64) cBool).enc (spec_l03DivDown a b)) :=
  givesT hmix [spec_l03Ok.e, spec_MulDivFloor.e, spec_l03End.e] 0 none Tryz.func83 rfl rfl ((by kernel_rfl : run1 Tryz.prog (tab [spec_l03Ok.e, spec_MulDivFloor.e, spec_l03End.e]) 0 none noL Tryz.f83 [(cInt .i64).enc a, (cInt .i64).enc b] [] = spec_l03DivDown.t a b fun r => some ((cT2 (cInt .i64) cBool).enc r, [])).trans (spec_l03DivDown.t_eq a b _))
def spec_l03DivDown.e : Entry Tryz.prog := entry2 (cInt .i64) (cInt .i64) (cT2 (cInt .i64) cBool) 83 spec_l03DivDown spec_l03DivDown.gives

/-! ### spec.l03DivUp -/
def spec_l03DivUp.t {ρ : Type} (a : Int) (b : Int) (K : (Int × Bool) → Option ρ) : Option ρ := bif (!(spec_l03Ok a)) then (K (0, false)) else (let t2 := (spec_l03DivDown (w64 (0 - a)) b); K ((w64 (0 - t2.1)), t2.2))
theorem spec_l03DivUp.t_eq {ρ : Type} (a : Int) (b : Int) (K : (Int × Bool) → Option ρ) : spec_l03DivUp.t a b K = K (spec_l03DivUp a b) := cq (fun h0 => rfl) (fun h0 => rfl)
theorem spec_l03DivUp.gives (a : Int) (b : Int) : GivesV Tryz.prog 84 [(cInt .i64).enc a, (cInt .i64).enc b] ((cT2 (cInt .i64) cBool).enc (spec_l03DivUp a b)) :=
  givesT hmix [spec_l03Ok.e, spec_l03DivDown.e] 0 none Tryz.func84 rfl rfl ((by kernel_rfl : run1 Tryz.prog (tab [spec_l03Ok.e, spec_l03DivDown.e]) 0 none noL Tryz.f84 [(cInt .i64).enc a, (cInt .i64).enc b] [] = spec_l03DivUp.t a b fun r => some ((cT2 (cInt .i64) cBool).enc r, [])).trans (spec_l03DivUp.t_eq a b _))
def spec_l03DivUp.e : Entry Tryz.prog := entry2 (cInt .i64) (cInt .i64) (cT2 (cInt .i64) cBool) 84 spec_l03DivUp spec_l03DivUp.gives

/-! ### spec.DivI -/
def spec_DivI.t {ρ : Type} (d : Iv) (i : Iv) (K : Iv → Option ρ) : Option ρ := bif (!(spec_l04Ok d)) then (K spec_l04Whole) else (bif (!(spec_l04Ok i)) then (K spec_l04Whole) else (bif (spec_l04Has i 0) then (K spec_l04Whole) else (let t7 := (spec_l03DivDown d.lo i.lo); let t8 := (spec_l03DivUp d.lo i.lo); bif (!t7.2) then (K spec_l04Whole) else (bif (!t8.2) then (K spec_l04Whole) else (let t13 := (spec_l03DivDown d.lo i.hi); let t14 := (spec_l03DivUp d.lo i.hi); bif (!t13.2) then (K spec_l04Whole) else (bif (!t14.2) then (K spec_l04Whole) else (let t19 := (spec_l03DivDown d.hi i.lo); let t20 := (spec_l03DivUp d.hi i.lo); bif (!t19.2) then (K spec_l04Whole) else (bif (!t20.2) then (K spec_l04Whole) else (let t25 := (spec_l03DivDown d.hi i.hi); let t26 := (spec_l03DivUp d.hi i.hi); bif (!t25.2) then (K spec_l04Whole) else (bif (!t26.2) then (K spec_l04Whole) else (K (spec_l04Make (spec_l00Min (spec_l00Min (spec_l00Min (spec_l00Min 1152921504606846976 t7.1) t13.1) t19.1) t25.1) (spec_l00Max (spec_l00Max (spec_l00Max (spec_l00Max (-1152921504606846976) t8.1) t14.1) t20.1) t26.1)))))))))))))
theorem spec_DivI.t_eq {ρ : Type} (d : Iv) (i : Iv) (K : Iv → Option ρ) : spec_DivI.t d i K = K (spec_DivI d i) := cq (fun h0 => rfl) (fun h0 => cq (fun h1 => rfl) (fun h1 => cq (fun h2 => rfl) (fun h2 => cq (fun h3 => rfl) (fun h3 => cq (fun h4 => rfl) (fun h4 => cq (fun h5 => rfl) (fun h5 => cq (fun h6 => rfl) (fun h6 => cq (fun h7 => rfl) (fun h7 => cq (fun h8 => rfl) (fun h8 => cq (fun h9 => rfl) (fun h9 => cq (fun h10 => rfl) (fun h10 => rfl)))))))))))
theorem spec_DivI.gives (d : Iv) (i : Iv) : GivesV Tryz.prog 42 [cIv.enc d, cIv.enc i] (cIv.enc (spec_DivI d i)) :=
  givesT hmix [spec_l04Ok.e, spec_l04Whole.e, spec_l04Has.e, spec_l03DivDown.e, spec_l03DivUp.e, spec_l00Min.e, spec_l00Max.e, spec_l04Make.e] 3 none Tryz.func42 rfl rfl ((by kernel_rfl : run1 Tryz.prog (tab [spec_l04Ok.e, spec_l04Whole.e, spec_l04Has.e, spec_l03DivDown.e, spec_l03DivUp.e, spec_l00Min.e, spec_l00Max.e, spec_l04Make.e]) 3 none noL Tryz.f42 [cIv.enc d, cIv.enc i] [] = spec_DivI.t d i fun r => some (cIv.enc r, [])).trans (spec_DivI.t_eq d i _))
def spec_DivI.e : Entry Tryz.prog := entry2 cIv cIv cIv 42 spec_DivI spec_DivI.gives

/-! ### spec.AddI -/
def spec_AddI.t {ρ : Type} (a : Iv) (b : Iv) (K : Iv → Option ρ) : Option ρ := bif (!(spec_l04Ok a)) then (K spec_l04Whole) else (bif (!(spec_l04Ok b)) then (K spec_l04Whole) else (K (spec_l04Make (w64 (a.lo + b.lo)) (w64 (a.hi + b.hi)))))
theorem spec_AddI.t_eq {ρ : Type} (a : Iv) (b : Iv) (K : Iv → Option ρ) : spec_AddI.t a b K = K (spec_AddI a b) := cq (fun h0 => rfl) (fun h0 => cq (fun h1 => rfl) (fun h1 => rfl))
theorem spec_AddI.gives (a : Iv) (b : Iv) : GivesV Tryz.prog 61 [cIv.enc a, cIv.enc b] (cIv.enc (spec_AddI a b)) :=
  givesT hmix [spec_l04Ok.e, spec_l04Whole.e, spec_l04Make.e] 0 none Tryz.func61 rfl rfl ((by kernel_rfl : run1 Tryz.prog (tab [spec_l04Ok.e, spec_l04Whole.e, spec_l04Make.e]) 0 none noL Tryz.f61 [cIv.enc a, cIv.enc b] [] = spec_AddI.t a b fun r => some (cIv.enc r, [])).trans (spec_AddI.t_eq a b _))
def spec_AddI.e : Entry Tryz.prog := entry2 cIv cIv cIv 61 spec_AddI spec_AddI.gives

/-! ### spec.MulI -/
def spec_MulI.t {ρ : Type} (d : Iv) (i : Iv) (K : Iv → Option ρ) : Option ρ := bif (!(spec_l04Ok d)) then (K spec_l04Whole) else (bif (!(spec_l04Ok i)) then (K spec_l04Whole) else (let t5 := (spec_l03MulDown d.lo i.lo); let t6 := (spec_l03MulUp d.lo i.lo); bif (!t5.2) then (K spec_l04Whole) else (bif (!t6.2) then (K spec_l04Whole) else (let t11 := (spec_l03MulDown d.lo i.hi); let t12 := (spec_l03MulUp d.lo i.hi); bif (!t11.2) then (K spec_l04Whole) else (bif (!t12.2) then (K spec_l04Whole) else (let t17 := (spec_l03MulDown d.hi i.lo); let t18 := (spec_l03MulUp d.hi i.lo); bif (!t17.2) then (K spec_l04Whole) else (bif (!t18.2) then (K spec_l04Whole) else (let t23 := (spec_l03MulDown d.hi i.hi); let t24 := (spec_l03MulUp d.hi i.hi); bif (!t23.2) then (K spec_l04Whole) else (bif (!t24.2) then (K spec_l04Whole) else (K (spec_l04Make (spec_l00Min (spec_l00Min (spec_l00Min (spec_l00Min 1152921504606846976 t5.1) t11.1) t17.1) t23.1) (spec_l00Max (spec_l00Max (spec_l00Max (spec_l00Max (-1152921504606846976) t6.1) t12.1) t18.1) t24.1))))))))))))
theorem spec_MulI.t_eq {ρ : Type} (d : Iv) (i : Iv) (K : Iv → Option ρ) : spec_MulI.t d i K = K (spec_MulI d i) := cq (fun h0 => rfl) (fun h0 => cq (fun h1 => rfl) (fun h1 => cq (fun h2 => rfl) (fun h2 => cq (fun h3 => rfl) (fun h3 => cq (fun h4 => rfl) (fun h4 => cq (fun h5 => rfl) (fun h5 => cq (fun h6 => rfl) (fun h6 => cq (fun h7 => rfl) (fun h7 => cq (fun h8 => rfl) (fun h8 => cq (fun h9 => rfl) (fun h9 => rfl))))))))))
theorem spec_MulI.gives (d : Iv) (i : Iv) : GivesV Tryz.prog 51 [cIv.enc d, cIv.enc i] (cIv.enc (spec_MulI d i)) :=
  givesT hmix [spec_l04Ok.e, spec_l04Whole.e, spec_l03MulDown.e, spec_l03MulUp.e, spec_l00Min.e, spec_l00Max.e, spec_l04Make.e] 3 none Tryz.func51 rfl rfl ((by kernel_rfl : run1 Tryz.prog (tab [spec_l04Ok.e, spec_l04Whole.e, spec_l03MulDown.e, spec_l03MulUp.e, spec_l00Min.e, spec_l00Max.e, spec_l04Make.e]) 3 none noL Tryz.f51 [cIv.enc d, cIv.enc i] [] = spec_MulI.t d i fun r => some (cIv.enc r, [])).trans (spec_MulI.t_eq d i _))
def spec_MulI.e : Entry Tryz.prog := entry2 cIv cIv cIv 51 spec_MulI spec_MulI.gives

/-! ### spec.SubI -/
def spec_SubI.t {ρ : Type} (a : Iv) (b : Iv) (K : Iv → Option ρ) : Option ρ := bif (!(spec_l04Ok a)) then (K spec_l04Whole) else (bif (!(spec_l04Ok b)) then (K spec_l04Whole) else (K (spec_l04Make (w64 (a.lo - b.hi)) (w64 (a.hi - b.lo)))))
theorem spec_SubI.t_eq {ρ : Type} (a : Iv) (b : Iv) (K : Iv → Option ρ) : spec_SubI.t a b K = K (spec_SubI a b) := cq (fun h0 => rfl) (fun h0 => cq (fun h1 => rfl) (fun h1 => rfl))
theorem spec_SubI.gives (a : Iv) (b : Iv) : GivesV Tryz.prog 52 [cIv.enc a, cIv.enc b] (cIv.enc (spec_SubI a b)) :=
  givesT hmix [spec_l04Ok.e, spec_l04Whole.e, spec_l04Make.e] 0 none Tryz.func52 rfl rfl ((by kernel_rfl : run1 Tryz.prog (tab [spec_l04Ok.e, spec_l04Whole.e, spec_l04Make.e]) 0 none noL Tryz.f52 [cIv.enc a, cIv.enc b] [] = spec_SubI.t a b fun r => some (cIv.enc r, [])).trans (spec_SubI.t_eq a b _))
def spec_SubI.e : Entry Tryz.prog := entry2 cIv cIv cIv 52 spec_SubI spec_SubI.gives

/-! ### spec.ValidInterval -/
def spec_ValidInterval.t {ρ : Type} (i : Iv) (K : Bool → Option ρ) : Option ρ := K (spec_l04Ok i)
theorem spec_ValidInterval.t_eq {ρ : Type} (i : Iv) (K : Bool → Option ρ) : spec_ValidInterval.t i K = K (spec_ValidInterval i) := rfl
theorem spec_ValidInterval.gives (i : Iv) : GivesV Tryz.prog 157 [cIv.enc i] (cBool.enc (spec_ValidInterval i)) :=
  givesT hmix [spec_l04Ok.e] 0 none Tryz.func157 rfl rfl ((by kernel_rfl : run1 Tryz.prog (tab [spec_l04Ok.e]) 0 none noL Tryz.f157 [cIv.enc i] [] = spec_ValidInterval.t i fun r => some (cBool.enc r, [])).trans (spec_ValidInterval.t_eq i _))
def spec_ValidInterval.e : Entry Tryz.prog := entry1 cIv cBool 157 spec_ValidInterval spec_ValidInterval.gives

/-! ### spec.l06Angle -/
def spec_l06Angle.t {ρ : Type} (n : Int) (K : Bool → Option ρ) : Option ρ := K (spec_l00In n (-1099511627776) 1099511627776)
theorem spec_l06Angle.t_eq {ρ : Type} (n : Int) (K : Bool → Option ρ) : spec_l06Angle.t n K = K (spec_l06Angle n) := rfl
theorem spec_l06Angle.gives (n : Int) : GivesV Tryz.prog 158 [(cInt .i64).enc n] (cBool.enc (spec_l06Angle n)) :=
  givesT hmix [spec_l00In.e] 0 none Tryz.func158 rfl rfl ((by kernel_rfl : run1 Tryz.prog (tab [spec_l00In.e]) 0 none noL Tryz.f158 [(cInt .i64).enc n] [] = spec_l06Angle.t n fun r => some (cBool.enc r, [])).trans (spec_l06Angle.t_eq n _))
def spec_l06Angle.e : Entry Tryz.prog := entry1 (cInt .i64) cBool 158 spec_l06Angle spec_l06Angle.gives

/-! ### spec.l06Fits -/
def spec_l06Fits.t {ρ : Type} (x : Iv) (K : Bool → Option ρ) : Option ρ := bif (spec_ValidInterval x) then (bif (spec_l06Angle x.lo) then (K (spec_l06Angle x.hi)) else (K false)) else (K false)
theorem spec_l06Fits.t_eq {ρ : Type} (x : Iv) (K : Bool → Option ρ) : spec_l06Fits.t x K = K (spec_l06Fits x) := cq (fun h0 => cq (fun h1 => rfl) (fun h1 => rfl)) (fun h0 => rfl)
theorem spec_l06Fits.gives (x : Iv) : GivesV Tryz.prog 131 [cIv.enc x] (cBool.enc (spec_l06Fits x)) :=
  givesT hmix [spec_ValidInterval.e, spec_l06Angle.e] 0 none Tryz.func131 rfl rfl ((by kernel_rfl : run1 Tryz.prog (tab [spec_ValidInterval.e, spec_l06Angle.e]) 0 none noL Tryz.f131 [cIv.enc x] [] = spec_l06Fits.t x fun r => some (cBool.enc r, [])).trans (spec_l06Fits.t_eq x _))
def spec_l06Fits.e : Entry Tryz.prog := entry1 cIv cBool 131 spec_l06Fits spec_l06Fits.gives

/-! ### spec.l06Ring -/
def spec_l06Ring.t {ρ : Type} (K : Iv → Option ρ) : Option ρ := K (Iv.mk (-4294967296) 4294967296)
theorem spec_l06Ring.t_eq {ρ : Type} (K : Iv → Option ρ) : spec_l06Ring.t K = K spec_l06Ring := rfl
theorem spec_l06Ring.gives : GivesV Tryz.prog 132 [] (cIv.enc spec_l06Ring) :=
  givesT hmix [] 0 none Tryz.func132 rfl rfl ((by kernel_rfl : run1 Tryz.prog (tab []) 0 none noL Tryz.f132 [] [] = spec_l06Ring.t fun r => some (cIv.enc r, [])).trans (spec_l06Ring.t_eq _))
def spec_l06Ring.e : Entry Tryz.prog := entry0 cIv 132 spec_l06Ring spec_l06Ring.gives

/-! ### spec.l06Floor -/
def spec_l06Floor.t {ρ : Type} (a : Int) (b : Int) (K : Int → Option ρ) : Option ρ := bif decide (b = 0) then none else (bif decide (b = 0) then none else (bif decide ((Int.tmod a b) < 0) then (K (w64 ((w64 (Int.tdiv a b)) - 1))) else (K (w64 (Int.tdiv a b)))))
theorem spec_l06Floor.t_eq {ρ : Type} (a : Int) (b : Int) (hpre : ((b != 0)) = true) (K : Int → Option ρ) : spec_l06Floor.t a b K = K (spec_l06Floor a b) := cqF (by exact pd_ne hpre) (fun h0 => cqF (by exact pd_ne hpre) (fun h1 => cq (fun h2 => rfl) (fun h2 => rfl)))
theorem spec_l06Floor.gives (a : Int) (b : Int) (hpre : ((b != 0)) = true) : GivesV Tryz.prog 164 [(cInt .i64).enc a, (cInt .i64).enc b] ((cInt .i64).enc (spec_l06Floor a b)) :=
  givesT hmix [] 0 none Tryz.func164 rfl rfl ((by kernel_rfl : run1 Tryz.prog (tab []) 0 none noL Tryz.f164 [(cInt .i64).enc a, (cInt .i64).enc b] [] = spec_l06Floor.t a b fun r => some ((cInt .i64).enc r, [])).trans (spec_l06Floor.t_eq a b hpre _))
def spec_l06Floor.e : Entry Tryz.prog := entry2P (cInt .i64) (cInt .i64) (cInt .i64) 164 spec_l06Floor (fun a b => (b != 0)) spec_l06Floor.gives

/-! ### spec.QuarterOf -/
def spec_QuarterOf.t {ρ : Type} (n : Int) (K : Int → Option ρ) : Option ρ := bif (!(spec_l06Angle n)) then (K 0) else (K (spec_l06Floor (w64 (n + 3373259426)) 6746518852))
theorem spec_QuarterOf.t_eq {ρ : Type} (n : Int) (K : Int → Option ρ) : spec_QuarterOf.t n K = K (spec_QuarterOf n) := cq (fun h0 => rfl) (fun h0 => rfl)
theorem spec_QuarterOf.gives (n : Int) : GivesV Tryz.prog 135 [(cInt .i64).enc n] ((cInt .i64).enc (spec_QuarterOf n)) :=
  givesT hmix [spec_l06Angle.e, spec_l06Floor.e] 0 none Tryz.func135 rfl rfl ((by kernel_rfl : run1 Tryz.prog (tab [spec_l06Angle.e, spec_l06Floor.e]) 0 none noL Tryz.f135 [(cInt .i64).enc n] [] = spec_QuarterOf.t n fun r => some ((cInt .i64).enc r, [])).trans (spec_QuarterOf.t_eq n _))
def spec_QuarterOf.e : Entry Tryz.prog := entry1 (cInt .i64) (cInt .i64) 135 spec_QuarterOf spec_QuarterOf.gives

/-! ### spec.l05At -/
def spec_l05At.t {ρ : Type} (n : Int) (K : Iv → Option ρ) : Option ρ := K (Iv.mk n n)
theorem spec_l05At.t_eq {ρ : Type} (n : Int) (K : Iv → Option ρ) : spec_l05At.t n K = K (spec_l05At n) := rfl
theorem spec_l05At.gives (n : Int) : GivesV Tryz.prog 159 [(cInt .i64).enc n] (cIv.enc (spec_l05At n)) :=
  givesT hmix [] 0 none Tryz.func159 rfl rfl ((by kernel_rfl : run1 Tryz.prog (tab []) 0 none noL Tryz.f159 [(cInt .i64).enc n] [] = spec_l05At.t n fun r => some (cIv.enc r, [])).trans (spec_l05At.t_eq n _))
def spec_l05At.e : Entry Tryz.prog := entry1 (cInt .i64) cIv 159 spec_l05At spec_l05At.gives

/-! ### spec.Whole -/
def spec_Whole.t {ρ : Type} (K : Iv → Option ρ) : Option ρ := K spec_l04Whole
theorem spec_Whole.t_eq {ρ : Type} (K : Iv → Option ρ) : spec_Whole.t K = K spec_Whole := rfl
theorem spec_Whole.gives : GivesV Tryz.prog 166 [] (cIv.enc spec_Whole) :=
  givesT hmix [spec_l04Whole.e] 0 none Tryz.func166 rfl rfl ((by kernel_rfl : run1 Tryz.prog (tab [spec_l04Whole.e]) 0 none noL Tryz.f166 [] [] = spec_Whole.t fun r => some (cIv.enc r, [])).trans (spec_Whole.t_eq _))
def spec_Whole.e : Entry Tryz.prog := entry0 cIv 166 spec_Whole spec_Whole.gives

/-! ### spec.l05Turn -/
def spec_l05Turn.A.t {ρ : Type} (k : Int) (K : Iv → Option ρ) : Option ρ := bif (k == 0) then (K (Iv.mk 0 0)) else (bif decide (k < 0) then none else (let t1 := (spec_MulFloor k 7244019458077122842 30); K (Iv.mk t1.1 (w64 (t1.1 + 1)))))
theorem spec_l05Turn.A.t_eq {ρ : Type} (k : Int) (hpre : (decide (0 ≤ k)) = true) (K : Iv → Option ρ) : spec_l05Turn.A.t k K = K (spec_l05Turn.A k) := cq (fun h0 => rfl) (fun h0 => cqF (by first | exact u64_neg _ | (simp only [decide_eq_true_eq, decide_eq_false_iff_not] at *; omega) | (simp only [Bool.not_eq_eq_eq_not, Bool.not_false, inside_iff, l00In_iff, decide_eq_true_eq, decide_eq_false_iff_not, w64_def, u64_def] at *; omega)) (fun h1 => rfl))
theorem spec_l05Turn.A.gives (k : Int) (hpre : (decide (0 ≤ k)) = true) : GivesV Tryz.prog 167 [(cInt .i64).enc k] (cIv.enc (spec_l05Turn.A k)) :=
  givesT hmix [spec_MulFloor.e] 0 none Tryz.func167 rfl rfl ((by kernel_rfl : run1 Tryz.prog (tab [spec_MulFloor.e]) 0 none noL Tryz.f167 [(cInt .i64).enc k] [] = spec_l05Turn.A.t k fun r => some (cIv.enc r, [])).trans (spec_l05Turn.A.t_eq k hpre _))
def spec_l05Turn.A.e : Entry Tryz.prog := entry1P (cInt .i64) cIv 167 spec_l05Turn.A (fun k => decide (0 ≤ k)) spec_l05Turn.A.gives
/-! ### spec.l05Turn -/
def spec_l05Turn.t {ρ : Type} (k : Int) (K : Iv → Option ρ) : Option ρ := bif (k == 0) then (K (Iv.mk 0 0)) else (bif decide (k < 0) then (bif decide (0 ≤ (w64 (0 - k))) then (let t1 := (spec_l05Turn.A (w64 (0 - k))); K (Iv.mk (w64 (0 - t1.hi)) (w64 (0 - t1.lo)))) else none) else (let t2 := (spec_MulFloor k 7244019458077122842 30); K (Iv.mk t2.1 (w64 (t2.1 + 1)))))
theorem spec_l05Turn.t_eq {ρ : Type} (k : Int) (hpre : (decide (-4096 ≤ k ∧ k ≤ 4096)) = true) (K : Iv → Option ρ) : spec_l05Turn.t k K = K (spec_l05Turn k) := cq (fun h0 => rfl) (fun h0 => cq (fun h1 => cqT (by first | exact u64_neg _ | (simp only [decide_eq_true_eq, decide_eq_false_iff_not] at *; omega) | (simp only [Bool.not_eq_eq_eq_not, Bool.not_false, inside_iff, l00In_iff, decide_eq_true_eq, decide_eq_false_iff_not, w64_def, u64_def] at *; omega)) (fun h2 => rfl)) (fun h1 => rfl))
theorem spec_l05Turn.gives (k : Int) (hpre : (decide (-4096 ≤ k ∧ k ≤ 4096)) = true) : GivesV Tryz.prog 167 [(cInt .i64).enc k] (cIv.enc (spec_l05Turn k)) :=
  givesT hmix [spec_l05Turn.A.e, spec_MulFloor.e] 0 none Tryz.func167 rfl rfl ((by kernel_rfl : run1 Tryz.prog (tab [spec_l05Turn.A.e, spec_MulFloor.e]) 0 none noL Tryz.f167 [(cInt .i64).enc k] [] = spec_l05Turn.t k fun r => some (cIv.enc r, [])).trans (spec_l05Turn.t_eq k hpre _))
def spec_l05Turn.e : Entry Tryz.prog := entry1P (cInt .i64) cIv 167 spec_l05Turn (fun k => decide (-4096 ≤ k ∧ k ≤ 4096)) spec_l05Turn.gives

/-! ### spec.TurnI -/
def spec_TurnI.A.t {ρ : Type} (k : Int) (K : Iv → Option ρ) : Option ρ := bif (!(spec_l00In k (-4096) 4096)) then (K spec_Whole) else (bif decide (-4096 ≤ k ∧ k ≤ 4096) then (K (spec_l05Turn k)) else none)
theorem spec_TurnI.A.t_eq {ρ : Type} (k : Int) (hpre : (decide (0 ≤ k)) = true) (K : Iv → Option ρ) : spec_TurnI.A.t k K = K (spec_TurnI.A k) := cq (fun h0 => rfl) (fun h0 => cqT (by first | exact u64_neg _ | (simp only [decide_eq_true_eq, decide_eq_false_iff_not] at *; omega) | (simp only [Bool.not_eq_eq_eq_not, Bool.not_false, inside_iff, l00In_iff, decide_eq_true_eq, decide_eq_false_iff_not, w64_def, u64_def] at *; omega)) (fun h1 => rfl))
theorem spec_TurnI.A.gives (k : Int) (hpre : (decide (0 ≤ k)) = true) : GivesV Tryz.prog 137 [(cInt .i64).enc k] (cIv.enc (spec_TurnI.A k)) :=
  givesT hmix [spec_l00In.e, spec_Whole.e, spec_l05Turn.e] 0 none Tryz.func137 rfl rfl ((by kernel_rfl : run1 Tryz.prog (tab [spec_l00In.e, spec_Whole.e, spec_l05Turn.e]) 0 none noL Tryz.f137 [(cInt .i64).enc k] [] = spec_TurnI.A.t k fun r => some (cIv.enc r, [])).trans (spec_TurnI.A.t_eq k hpre _))
def spec_TurnI.A.e : Entry Tryz.prog := entry1P (cInt .i64) cIv 137 spec_TurnI.A (fun k => decide (0 ≤ k)) spec_TurnI.A.gives
/-! ### spec.TurnI -/
def spec_TurnI.t {ρ : Type} (k : Int) (K : Iv → Option ρ) : Option ρ := bif (!(spec_l00In k (-4096) 4096)) then (K spec_Whole) else (bif decide (-4096 ≤ k ∧ k ≤ 4096) then (K (spec_l05Turn k)) else none)
theorem spec_TurnI.t_eq {ρ : Type} (k : Int) (K : Iv → Option ρ) : spec_TurnI.t k K = K (spec_TurnI k) := cq (fun h0 => rfl) (fun h0 => cqT (by first | exact u64_neg _ | (simp only [decide_eq_true_eq, decide_eq_false_iff_not] at *; omega) | (simp only [Bool.not_eq_eq_eq_not, Bool.not_false, inside_iff, l00In_iff, decide_eq_true_eq, decide_eq_false_iff_not, w64_def, u64_def] at *; omega)) (fun h1 => rfl))
theorem spec_TurnI.gives (k : Int) : GivesV Tryz.prog 137 [(cInt .i64).enc k] (cIv.enc (spec_TurnI k)) :=
  givesT hmix [spec_l00In.e, spec_Whole.e, spec_l05Turn.e] 0 none Tryz.func137 rfl rfl ((by kernel_rfl : run1 Tryz.prog (tab [spec_l00In.e, spec_Whole.e, spec_l05Turn.e]) 0 none noL Tryz.f137 [(cInt .i64).enc k] [] = spec_TurnI.t k fun r => some (cIv.enc r, [])).trans (spec_TurnI.t_eq k _))
def spec_TurnI.e : Entry Tryz.prog := entry1 (cInt .i64) cIv 137 spec_TurnI spec_TurnI.gives

/-! ### spec.l06Series -/
def spec_l06Series.t {ρ : Type} (y : Iv) (first : Int) (K : Iv → Option ρ) : Option ρ := K (spec_SubI (spec_Integer 1) (spec_MulI (spec_DivI y (spec_Integer (w64 ((w64 (2 + first)) * (w64 ((w64 (2 + first)) + 1)))))) (spec_SubI (spec_Integer 1) (spec_MulI (spec_DivI y (spec_Integer (w64 ((w64 (4 + first)) * (w64 ((w64 (4 + first)) + 1)))))) (spec_SubI (spec_Integer 1) (spec_MulI (spec_DivI y (spec_Integer (w64 ((w64 (6 + first)) * (w64 ((w64 (6 + first)) + 1)))))) (spec_SubI (spec_Integer 1) (spec_MulI (spec_DivI y (spec_Integer (w64 ((w64 (8 + first)) * (w64 ((w64 (8 + first)) + 1)))))) (spec_SubI (spec_Integer 1) (spec_MulI (spec_DivI y (spec_Integer (w64 ((w64 (10 + first)) * (w64 ((w64 (10 + first)) + 1)))))) (spec_SubI (spec_Integer 1) (spec_MulI (spec_DivI y (spec_Integer (w64 ((w64 (12 + first)) * (w64 ((w64 (12 + first)) + 1)))))) (spec_SubI (spec_Integer 1) (spec_MulI (spec_DivI y (spec_Integer (w64 ((w64 (14 + first)) * (w64 ((w64 (14 + first)) + 1)))))) (spec_SubI (spec_Integer 1) (spec_MulI (spec_DivI y (spec_Integer (w64 ((w64 (16 + first)) * (w64 ((w64 (16 + first)) + 1)))))) (spec_Integer 1)))))))))))))))))
theorem spec_l06Series.t_eq {ρ : Type} (y : Iv) (first : Int) (K : Iv → Option ρ) : spec_l06Series.t y first K = K (spec_l06Series y first) := rfl
theorem spec_l06Series.gives (y : Iv) (first : Int) : GivesV Tryz.prog 182 [cIv.enc y, (cInt .i64).enc first] (cIv.enc (spec_l06Series y first)) :=
  givesT hmix [spec_Integer.e, spec_DivI.e, spec_MulI.e, spec_SubI.e] 9 none Tryz.func182 rfl rfl ((by kernel_rfl : run1 Tryz.prog (tab [spec_Integer.e, spec_DivI.e, spec_MulI.e, spec_SubI.e]) 9 none noL Tryz.f182 [cIv.enc y, (cInt .i64).enc first] [] = spec_l06Series.t y first fun r => some (cIv.enc r, [])).trans (spec_l06Series.t_eq y first _))
def spec_l06Series.e : Entry Tryz.prog := entry2 cIv (cInt .i64) cIv 182 spec_l06Series spec_l06Series.gives

/-! ### spec.l06Tiny -/
def spec_l06Tiny.t {ρ : Type} (K : Iv → Option ρ) : Option ρ := K (Iv.mk (-1) 1)
theorem spec_l06Tiny.t_eq {ρ : Type} (K : Iv → Option ρ) : spec_l06Tiny.t K = K spec_l06Tiny := rfl
theorem spec_l06Tiny.gives : GivesV Tryz.prog 183 [] (cIv.enc spec_l06Tiny) :=
  givesT hmix [] 0 none Tryz.func183 rfl rfl ((by kernel_rfl : run1 Tryz.prog (tab []) 0 none noL Tryz.f183 [] [] = spec_l06Tiny.t fun r => some (cIv.enc r, [])).trans (spec_l06Tiny.t_eq _))
def spec_l06Tiny.e : Entry Tryz.prog := entry0 cIv 183 spec_l06Tiny spec_l06Tiny.gives

/-! ### spec.SinSeries -/
def spec_SinSeries.t {ρ : Type} (x : Iv) (K : Iv → Option ρ) : Option ρ := bif (!(spec_InsideI x spec_l06Ring)) then (K spec_Whole) else (K (spec_AddI (spec_MulI x (spec_l06Series (spec_SqrI x) 0)) spec_l06Tiny))
theorem spec_SinSeries.t_eq {ρ : Type} (x : Iv) (K : Iv → Option ρ) : spec_SinSeries.t x K = K (spec_SinSeries x) := cq (fun h0 => rfl) (fun h0 => rfl)
theorem spec_SinSeries.gives (x : Iv) : GivesV Tryz.prog 161 [cIv.enc x] (cIv.enc (spec_SinSeries x)) :=
  givesT hmix [spec_l06Ring.e, spec_InsideI.e, spec_Whole.e, spec_SqrI.e, spec_l06Series.e, spec_MulI.e, spec_l06Tiny.e, spec_AddI.e] 0 none Tryz.func161 rfl rfl ((by kernel_rfl : run1 Tryz.prog (tab [spec_l06Ring.e, spec_InsideI.e, spec_Whole.e, spec_SqrI.e, spec_l06Series.e, spec_MulI.e, spec_l06Tiny.e, spec_AddI.e]) 0 none noL Tryz.f161 [cIv.enc x] [] = spec_SinSeries.t x fun r => some (cIv.enc r, [])).trans (spec_SinSeries.t_eq x _))
def spec_SinSeries.e : Entry Tryz.prog := entry1 cIv cIv 161 spec_SinSeries spec_SinSeries.gives

/-! ### spec.MeetI -/
def spec_MeetI.t {ρ : Type} (a : Iv) (b : Iv) (K : (Iv × Bool) → Option ρ) : Option ρ := bif (!(spec_l04Ok a)) then (bif (!(spec_l04Ok b)) then (K (spec_l04Whole, true)) else (bif (!(spec_l04Ok a)) then (K (b, true)) else (bif (!(spec_l04Ok b)) then (K (a, true)) else (let t6 := (spec_l00Max a.lo b.lo); let t7 := (spec_l00Min a.hi b.hi); bif decide (t6 > t7) then (K ((Iv.mk 0 0), false)) else (K ((Iv.mk t6 t7), true)))))) else (bif (!(spec_l04Ok a)) then (K (b, true)) else (bif (!(spec_l04Ok b)) then (K (a, true)) else (let t10 := (spec_l00Max a.lo b.lo); let t11 := (spec_l00Min a.hi b.hi); bif decide (t10 > t11) then (K ((Iv.mk 0 0), false)) else (K ((Iv.mk t10 t11), true)))))
theorem spec_MeetI.t_eq {ρ : Type} (a : Iv) (b : Iv) (K : (Iv × Bool) → Option ρ) : spec_MeetI.t a b K = K (spec_MeetI a b) := cq (fun h0 => cq (fun h1 => rfl) (fun h1 => cq (fun h2 => rfl) (fun h2 => cq (fun h3 => rfl) (fun h3 => cq (fun h4 => rfl) (fun h4 => rfl))))) (fun h0 => cq (fun h1 => rfl) (fun h1 => cq (fun h2 => rfl) (fun h2 => cq (fun h3 => rfl) (fun h3 => rfl))))
theorem spec_MeetI.gives (a : Iv) (b : Iv) : GivesV Tryz.prog 165 [cIv.enc a, cIv.enc b] ((cT2 cIv cBool).enc (spec_MeetI a b)) :=
  givesT hmix [spec_l04Ok.e, spec_l04Whole.e, spec_l00Max.e, spec_l00Min.e] 0 none Tryz.func165 rfl rfl ((by kernel_rfl : run1 Tryz.prog (tab [spec_l04Ok.e, spec_l04Whole.e, spec_l00Max.e, spec_l00Min.e]) 0 none noL Tryz.f165 [cIv.enc a, cIv.enc b] [] = spec_MeetI.t a b fun r => some ((cT2 cIv cBool).enc r, [])).trans (spec_MeetI.t_eq a b _))
def spec_MeetI.e : Entry Tryz.prog := entry2 cIv cIv (cT2 cIv cBool) 165 spec_MeetI spec_MeetI.gives

/-! ### spec.l06Meet -/
def spec_l06Meet.t {ρ : Type} (x : Iv) (K : Iv → Option ρ) : Option ρ := let t2 := (spec_MeetI x spec_l06Ring); bif (!t2.2) then (K spec_l06Ring) else (K t2.1)
theorem spec_l06Meet.t_eq {ρ : Type} (x : Iv) (K : Iv → Option ρ) : spec_l06Meet.t x K = K (spec_l06Meet x) := cq (fun h0 => rfl) (fun h0 => rfl)
theorem spec_l06Meet.gives (x : Iv) : GivesV Tryz.prog 160 [cIv.enc x] (cIv.enc (spec_l06Meet x)) :=
  givesT hmix [spec_l06Ring.e, spec_MeetI.e] 0 none Tryz.func160 rfl rfl ((by kernel_rfl : run1 Tryz.prog (tab [spec_l06Ring.e, spec_MeetI.e]) 0 none noL Tryz.f160 [cIv.enc x] [] = spec_l06Meet.t x fun r => some (cIv.enc r, [])).trans (spec_l06Meet.t_eq x _))
def spec_l06Meet.e : Entry Tryz.prog := entry1 cIv cIv 160 spec_l06Meet spec_l06Meet.gives

/-! ### spec.CosSeries -/
def spec_CosSeries.t {ρ : Type} (x : Iv) (K : Iv → Option ρ) : Option ρ := bif (!(spec_InsideI x spec_l06Ring)) then (K spec_Whole) else (K (spec_AddI (spec_l06Series (spec_SqrI x) (-1)) spec_l06Tiny))
theorem spec_CosSeries.t_eq {ρ : Type} (x : Iv) (K : Iv → Option ρ) : spec_CosSeries.t x K = K (spec_CosSeries x) := cq (fun h0 => rfl) (fun h0 => rfl)
theorem spec_CosSeries.gives (x : Iv) : GivesV Tryz.prog 162 [cIv.enc x] (cIv.enc (spec_CosSeries x)) :=
  givesT hmix [spec_l06Ring.e, spec_InsideI.e, spec_Whole.e, spec_SqrI.e, spec_l06Series.e, spec_l06Tiny.e, spec_AddI.e] 0 none Tryz.func162 rfl rfl ((by kernel_rfl : run1 Tryz.prog (tab [spec_l06Ring.e, spec_InsideI.e, spec_Whole.e, spec_SqrI.e, spec_l06Series.e, spec_l06Tiny.e, spec_AddI.e]) 0 none noL Tryz.f162 [cIv.enc x] [] = spec_CosSeries.t x fun r => some (cIv.enc r, [])).trans (spec_CosSeries.t_eq x _))
def spec_CosSeries.e : Entry Tryz.prog := entry1 cIv cIv 162 spec_CosSeries spec_CosSeries.gives

/-! ### spec.NegI -/
def spec_NegI.t {ρ : Type} (a : Iv) (K : Iv → Option ρ) : Option ρ := bif (!(spec_l04Ok a)) then (K spec_l04Whole) else (K (spec_l04Make (w64 (0 - a.hi)) (w64 (0 - a.lo))))
theorem spec_NegI.t_eq {ρ : Type} (a : Iv) (K : Iv → Option ρ) : spec_NegI.t a K = K (spec_NegI a) := cq (fun h0 => rfl) (fun h0 => rfl)
theorem spec_NegI.gives (a : Iv) : GivesV Tryz.prog 163 [cIv.enc a] (cIv.enc (spec_NegI a)) :=
  givesT hmix [spec_l04Ok.e, spec_l04Whole.e, spec_l04Make.e] 0 none Tryz.func163 rfl rfl ((by kernel_rfl : run1 Tryz.prog (tab [spec_l04Ok.e, spec_l04Whole.e, spec_l04Make.e]) 0 none noL Tryz.f163 [cIv.enc a] [] = spec_NegI.t a fun r => some (cIv.enc r, [])).trans (spec_NegI.t_eq a _))
def spec_NegI.e : Entry Tryz.prog := entry1 cIv cIv 163 spec_NegI spec_NegI.gives

/-! ### spec.l06At -/
def spec_l06At.t {ρ : Type} (n : Int) (turns : Int) (K : Iv → Option ρ) : Option ρ := bif (!(spec_l06Angle n)) then (K spec_l06Ring) else (let t3 := (spec_QuarterOf n); let t6 := (spec_SubI (spec_l05At n) (spec_TurnI t3)); bif ((andI .i64 (w64 (t3 + turns)) 3) == 0) then (K (spec_l06Meet (spec_SinSeries t6))) else (bif ((andI .i64 (w64 (t3 + turns)) 3) == 1) then (K (spec_l06Meet (spec_CosSeries t6))) else (bif ((andI .i64 (w64 (t3 + turns)) 3) == 2) then (K (spec_l06Meet (spec_NegI (spec_SinSeries t6)))) else (K (spec_l06Meet (spec_NegI (spec_CosSeries t6)))))))
theorem spec_l06At.t_eq {ρ : Type} (n : Int) (turns : Int) (K : Iv → Option ρ) : spec_l06At.t n turns K = K (spec_l06At n turns) := cq (fun h0 => rfl) (fun h0 => cq (fun h1 => rfl) (fun h1 => cq (fun h2 => rfl) (fun h2 => cq (fun h3 => rfl) (fun h3 => rfl))))
theorem spec_l06At.gives (n : Int) (turns : Int) : GivesV Tryz.prog 134 [(cInt .i64).enc n, (cInt .i64).enc turns] (cIv.enc (spec_l06At n turns)) :=
  givesT hmix [spec_l06Angle.e, spec_l06Ring.e, spec_QuarterOf.e, spec_l05At.e, spec_TurnI.e, spec_SubI.e, spec_SinSeries.e, spec_l06Meet.e, spec_CosSeries.e, spec_NegI.e] 0 none Tryz.func134 rfl rfl ((by kernel_rfl : run1 Tryz.prog (tab [spec_l06Angle.e, spec_l06Ring.e, spec_QuarterOf.e, spec_l05At.e, spec_TurnI.e, spec_SubI.e, spec_SinSeries.e, spec_l06Meet.e, spec_CosSeries.e, spec_NegI.e]) 0 none noL Tryz.f134 [(cInt .i64).enc n, (cInt .i64).enc turns] [] = spec_l06At.t n turns fun r => some (cIv.enc r, [])).trans (spec_l06At.t_eq n turns _))
def spec_l06At.e : Entry Tryz.prog := entry2 (cInt .i64) (cInt .i64) cIv 134 spec_l06At spec_l06At.gives

/-! ### spec.HullI -/
def spec_HullI.t {ρ : Type} (a : Iv) (b : Iv) (K : Iv → Option ρ) : Option ρ := bif (!(spec_l04Ok a)) then (K spec_l04Whole) else (bif (!(spec_l04Ok b)) then (K spec_l04Whole) else (K (spec_l04Make (spec_l00Min a.lo b.lo) (spec_l00Max a.hi b.hi))))
theorem spec_HullI.t_eq {ρ : Type} (a : Iv) (b : Iv) (K : Iv → Option ρ) : spec_HullI.t a b K = K (spec_HullI a b) := cq (fun h0 => rfl) (fun h0 => cq (fun h1 => rfl) (fun h1 => rfl))
theorem spec_HullI.gives (a : Iv) (b : Iv) : GivesV Tryz.prog 133 [cIv.enc a, cIv.enc b] (cIv.enc (spec_HullI a b)) :=
  givesT hmix [spec_l04Ok.e, spec_l04Whole.e, spec_l00Min.e, spec_l00Max.e, spec_l04Make.e] 0 none Tryz.func133 rfl rfl ((by kernel_rfl : run1 Tryz.prog (tab [spec_l04Ok.e, spec_l04Whole.e, spec_l00Min.e, spec_l00Max.e, spec_l04Make.e]) 0 none noL Tryz.f133 [cIv.enc a, cIv.enc b] [] = spec_HullI.t a b fun r => some (cIv.enc r, [])).trans (spec_HullI.t_eq a b _))
def spec_HullI.e : Entry Tryz.prog := entry2 cIv cIv cIv 133 spec_HullI spec_HullI.gives

/-! ### spec.OverlapI -/
def spec_OverlapI.t {ρ : Type} (a : Iv) (b : Iv) (K : Bool → Option ρ) : Option ρ := K ((spec_MeetI a b).2)
theorem spec_OverlapI.t_eq {ρ : Type} (a : Iv) (b : Iv) (K : Bool → Option ρ) : spec_OverlapI.t a b K = K (spec_OverlapI a b) := rfl
theorem spec_OverlapI.gives (a : Iv) (b : Iv) : GivesV Tryz.prog 136 [cIv.enc a, cIv.enc b] (cBool.enc (spec_OverlapI a b)) :=
  givesT hmix [spec_MeetI.e] 0 none Tryz.func136 rfl rfl ((by kernel_rfl : run1 Tryz.prog (tab [spec_MeetI.e]) 0 none noL Tryz.f136 [cIv.enc a, cIv.enc b] [] = spec_OverlapI.t a b fun r => some (cBool.enc r, [])).trans (spec_OverlapI.t_eq a b _))
def spec_OverlapI.e : Entry Tryz.prog := entry2 cIv cIv cBool 136 spec_OverlapI spec_OverlapI.gives

/-! ### spec.l06Over -/
def spec_l06Over.ls : Option (List Nat) := some [1, 2, 4, 5, 6]
def spec_l06Over.env5 (x_lo : Int) (x_hi : Int) (turns_ : Int) (v : Int × Int × Int) : Env := [(1, .int .i64 turns_), (2, .pointer (some ⟨0, 0, none⟩)), (4, .pointer (some ⟨1, 0, none⟩)), (5, .pointer (some ⟨2, 0, none⟩)), (6, .int .i64 v.1)]
def spec_l06Over.heap5 (x_lo : Int) (x_hi : Int) (turns_ : Int) (v : Int × Int × Int) : LH := [(#[.int .i64 x_lo, .int .i64 x_hi], 26), (#[.int .i64 0, .int .i64 0], 26), (#[.int .i64 v.2.1, .int .i64 v.2.2], 26)]
def spec_l06Over.L5 : LEntry := ⟨5, fun _ tm σ K => match tm, σ with
  | [(1, .int .i64 turns_), (2, .pointer (some ⟨0, 0, none⟩)), (4, .pointer (some ⟨1, 0, none⟩)), (5, .pointer (some ⟨2, 0, none⟩)), (6, .int .i64 q)], [(⟨[.int .i64 x_lo, .int .i64 x_hi]⟩, 26), (⟨[.int .i64 0, .int .i64 0]⟩, 26), (⟨[.int .i64 out_lo, .int .i64 out_hi]⟩, 26)] => (match decide (-400 ≤ q ∧ q ≤ 400) with | true => K (.exit 0) (spec_l06Over.env5 x_lo x_hi turns_ (spec_l06Over.fin5 x_lo x_hi turns_ (q, out_lo, out_hi))) (spec_l06Over.heap5 x_lo x_hi turns_ (spec_l06Over.fin5 x_lo x_hi turns_ (q, out_lo, out_hi))) | false => none)
  | _, _ => none⟩
def spec_l06Over.lt5 {ρ : Type} (x_lo : Int) (x_hi : Int) (turns_ : Int) (q : Int) (out_lo : Int) (out_hi : Int) (K : Sum (Int × Int × Int) (Int × Int × Int) → Option ρ) : Option ρ := bif decide (q ≤ (w64 ((spec_QuarterOf x_hi) + 1))) then (bif (!(spec_OverlapI (spec_TurnI q) (Iv.mk x_lo x_hi))) then (K (Sum.inl ((w64 (q + 1)), out_lo, out_hi))) else (bif ((andI .i64 (w64 (q + turns_)) 3) == 1) then (let t11 := (spec_HullI (Iv.mk out_lo out_hi) (spec_Integer 1)); K (Sum.inl ((w64 (q + 1)), t11.lo, t11.hi))) else (bif ((andI .i64 (w64 (q + turns_)) 3) == 3) then (let t13 := (spec_HullI (Iv.mk out_lo out_hi) (spec_Integer (-1))); K (Sum.inl ((w64 (q + 1)), t13.lo, t13.hi))) else (K (Sum.inl ((w64 (q + 1)), out_lo, out_hi)))))) else (K (Sum.inr (q, out_lo, out_hi)))
theorem spec_l06Over.lt5_eq {ρ : Type} (x_lo : Int) (x_hi : Int) (turns_ : Int) (q : Int) (out_lo : Int) (out_hi : Int) (hpre : -400 ≤ q ∧ q ≤ 400) (K : Sum (Int × Int × Int) (Int × Int × Int) → Option ρ) : spec_l06Over.lt5 x_lo x_hi turns_ q out_lo out_hi K = K (spec_l06Over.rnd5 x_lo x_hi turns_ q out_lo out_hi) := cq (fun h0 => cq (fun h1 => rfl) (fun h1 => cq (fun h2 => rfl) (fun h2 => cq (fun h3 => rfl) (fun h3 => rfl)))) (fun h0 => rfl)
theorem spec_l06Over.step5 (x_lo : Int) (x_hi : Int) (turns_ : Int) (q : Int) (out_lo : Int) (out_hi : Int) (k : Nat) (R : Type) (K : LX → Env → LH → Option R) : loopN Tryz.prog 0 spec_l06Over.ls (k + 1) (exec Tryz.prog (tab (P := Tryz.prog) [spec_l06Fits.e, spec_l06Ring.e, spec_l06At.e, spec_HullI.e, spec_QuarterOf.e, spec_TurnI.e, spec_OverlapI.e, spec_Integer.e]) 0 52 0 spec_l06Over.ls (lam [spec_l06Over.L5]) (cOf Tryz.f104 0)) (spec_l06Over.env5 x_lo x_hi turns_ (q, out_lo, out_hi)) (spec_l06Over.heap5 x_lo x_hi turns_ (q, out_lo, out_hi)) K = spec_l06Over.lt5 x_lo x_hi turns_ q out_lo out_hi (sumK (fun v => loopN Tryz.prog 0 spec_l06Over.ls k (exec Tryz.prog (tab (P := Tryz.prog) [spec_l06Fits.e, spec_l06Ring.e, spec_l06At.e, spec_HullI.e, spec_QuarterOf.e, spec_TurnI.e, spec_OverlapI.e, spec_Integer.e]) 0 52 0 spec_l06Over.ls (lam [spec_l06Over.L5]) (cOf Tryz.f104 0)) (spec_l06Over.env5 x_lo x_hi turns_ v) (spec_l06Over.heap5 x_lo x_hi turns_ v) K) (fun v => K (.exit 0) (spec_l06Over.env5 x_lo x_hi turns_ v) (spec_l06Over.heap5 x_lo x_hi turns_ v))) := by kernel_rfl
theorem spec_l06Over.dec5 (x_lo : Int) (x_hi : Int) (turns_ : Int) (v : Int × Int × Int) (hv : -400 ≤ v.1 ∧ v.1 ≤ 400) (v' : Int × Int × Int) (hr : spec_l06Over.rnd5 x_lo x_hi turns_ v.1 v.2.1 v.2.2 = Sum.inl v') : (-400 ≤ v'.1 ∧ v'.1 ≤ 400) ∧ (401 - v'.1).toNat < (401 - v.1).toNat := by
  exact dec_over hv hr
theorem spec_l06Over.to5 : spec_l06Over.L5.Ok Tryz.prog (tab (P := Tryz.prog) [spec_l06Fits.e, spec_l06Ring.e, spec_l06At.e, spec_HullI.e, spec_QuarterOf.e, spec_TurnI.e, spec_OverlapI.e, spec_Integer.e]) 0 52 0 spec_l06Over.ls (lam [spec_l06Over.L5]) (cOf Tryz.f104 0) := by
  intro R tm σ K r h
  simp only [spec_l06Over.L5] at h
  split at h
  case h_2 => simp at h
  split at h
  case h_2 => simp at h
  rename_i turns_ q x_lo x_hi out_lo out_hi _ hc
  exact ⟨_, _, _, h, loop_to (x := 0) (rnd := (fun v : Int × Int × Int => spec_l06Over.rnd5 x_lo x_hi turns_ v.1 v.2.1 v.2.2)) (env := fun v : Int × Int × Int => spec_l06Over.env5 x_lo x_hi turns_ v) (heap := fun v : Int × Int × Int => spec_l06Over.heap5 x_lo x_hi turns_ v) (Inv := (fun v : Int × Int × Int => -400 ≤ v.1 ∧ v.1 ≤ 400)) (μ := (fun v : Int × Int × Int => (401 - v.1).toNat)) (fun v hv k R K => (spec_l06Over.step5 x_lo x_hi turns_ v.1 v.2.1 v.2.2 k R K).trans (spec_l06Over.lt5_eq x_lo x_hi turns_ v.1 v.2.1 v.2.2 hv (sumK (fun v => loopN Tryz.prog 0 spec_l06Over.ls k (exec Tryz.prog (tab (P := Tryz.prog) [spec_l06Fits.e, spec_l06Ring.e, spec_l06At.e, spec_HullI.e, spec_QuarterOf.e, spec_TurnI.e, spec_OverlapI.e, spec_Integer.e]) 0 52 0 spec_l06Over.ls (lam [spec_l06Over.L5]) (cOf Tryz.f104 0)) (spec_l06Over.env5 x_lo x_hi turns_ v) (spec_l06Over.heap5 x_lo x_hi turns_ v) K) (fun v => K (.exit 0) (spec_l06Over.env5 x_lo x_hi turns_ v) (spec_l06Over.heap5 x_lo x_hi turns_ v))))) (fun v hv v' hr => spec_l06Over.dec5 x_lo x_hi turns_ v hv v' hr) 802 (q, out_lo, out_hi) (by have := of_decide_eq_true hc; first | exact this | (simp only []; exact this)) (by have := of_decide_eq_true hc; first | omega | (simp only []; omega))⟩
theorem spec_l06Over.lok : ∀ c, Tryz.f104.body = some c → LamOk Tryz.prog (tab (P := Tryz.prog) [spec_l06Fits.e, spec_l06Ring.e, spec_l06At.e, spec_HullI.e, spec_QuarterOf.e, spec_TurnI.e, spec_OverlapI.e, spec_Integer.e]) 0 Tryz.f104.ntmps 0 spec_l06Over.ls (lam [spec_l06Over.L5]) (loopsOf c) := by
  intro c hc
  have hb : loopsOf c = [(cOf Tryz.f104 0)] := by
    have h : loopsOf (Tryz.f104.body.getD .skip) = [(cOf Tryz.f104 0)] := by kernel_rfl
    rw [hc] at h
    exact h
  exact lam_ok1 hb spec_l06Over.to5
def spec_l06Over.t {ρ : Type} (x : Iv) (turns : Int) (K : Iv → Option ρ) : Option ρ := bif (!(spec_l06Fits x)) then (K spec_l06Ring) else (let t5 := (spec_HullI (spec_l06At x.lo turns) (spec_l06At x.hi turns)); let t6 := (spec_QuarterOf x.lo); bif decide (-400 ≤ (w64 (t6 - 1)) ∧ (w64 (t6 - 1)) ≤ 400) then (let t7 := (spec_l06Over.fin5 x.lo x.hi turns ((w64 (t6 - 1)), t5.lo, t5.hi)); K (Iv.mk t7.2.1 t7.2.2)) else none)
theorem spec_l06Over.t_eq {ρ : Type} (x : Iv) (turns : Int) (K : Iv → Option ρ) : spec_l06Over.t x turns K = K (spec_l06Over x turns) := cq (fun h0 => rfl) (fun h0 => cqT (by exact pd_over0 _) (fun h1 => rfl))
theorem spec_l06Over.gives (x : Iv) (turns : Int) : GivesV Tryz.prog 104 [cIv.enc x, (cInt .i64).enc turns] (cIv.enc (spec_l06Over x turns)) :=
  givesL hmix [spec_l06Fits.e, spec_l06Ring.e, spec_l06At.e, spec_HullI.e, spec_QuarterOf.e, spec_TurnI.e, spec_OverlapI.e, spec_Integer.e] 0 spec_l06Over.ls (lam [spec_l06Over.L5]) Tryz.func104 rfl rfl spec_l06Over.lok ((by kernel_rfl : run1 Tryz.prog (tab [spec_l06Fits.e, spec_l06Ring.e, spec_l06At.e, spec_HullI.e, spec_QuarterOf.e, spec_TurnI.e, spec_OverlapI.e, spec_Integer.e]) 0 spec_l06Over.ls (lam [spec_l06Over.L5]) Tryz.f104 [cIv.enc x, (cInt .i64).enc turns] [] = spec_l06Over.t x turns fun r => some (cIv.enc r, [])).trans (spec_l06Over.t_eq x turns _))
def spec_l06Over.e : Entry Tryz.prog := entry2 cIv (cInt .i64) cIv 104 spec_l06Over spec_l06Over.gives

/-! ### spec.SinI -/
def spec_SinI.t {ρ : Type} (x : Iv) (K : Iv → Option ρ) : Option ρ := K (spec_l06Over x 0)
theorem spec_SinI.t_eq {ρ : Type} (x : Iv) (K : Iv → Option ρ) : spec_SinI.t x K = K (spec_SinI x) := rfl
theorem spec_SinI.gives (x : Iv) : GivesV Tryz.prog 60 [cIv.enc x] (cIv.enc (spec_SinI x)) :=
  givesT hmix [spec_l06Over.e] 0 none Tryz.func60 rfl rfl ((by kernel_rfl : run1 Tryz.prog (tab [spec_l06Over.e]) 0 none noL Tryz.f60 [cIv.enc x] [] = spec_SinI.t x fun r => some (cIv.enc r, [])).trans (spec_SinI.t_eq x _))
def spec_SinI.e : Entry Tryz.prog := entry1 cIv cIv 60 spec_SinI spec_SinI.gives

/-! ### spec.MajorI -/
def spec_MajorI.t {ρ : Type} (e_0 : El) (K : Iv → Option ρ) : Option ρ := bif (!(spec_l12Ok e_0)) then (K spec_l04Whole) else (K (spec_Quotient e_0.a 1000))
theorem spec_MajorI.t_eq {ρ : Type} (e_0 : El) (K : Iv → Option ρ) : spec_MajorI.t e_0 K = K (spec_MajorI e_0) := cq (fun h0 => rfl) (fun h0 => rfl)
theorem spec_MajorI.gives (e_0 : El) : GivesV Tryz.prog 43 [cEl.enc e_0] (cIv.enc (spec_MajorI e_0)) :=
  givesT hmix [spec_l12Ok.e, spec_l04Whole.e, spec_Quotient.e] 0 none Tryz.func43 rfl rfl ((by kernel_rfl : run1 Tryz.prog (tab [spec_l12Ok.e, spec_l04Whole.e, spec_Quotient.e]) 0 none noL Tryz.f43 [cEl.enc e_0] [] = spec_MajorI.t e_0 fun r => some (cIv.enc r, [])).trans (spec_MajorI.t_eq e_0 _))
def spec_MajorI.e : Entry Tryz.prog := entry1 cEl cIv 43 spec_MajorI spec_MajorI.gives

/-! ### spec.l12Arc -/
def spec_l12Arc.t {ρ : Type} (d : El) (i : Int) (K : Iv → Option ρ) : Option ρ := let t1 := (spec_l08At i); let t2 := (spec_ThirdI d); let t3 := (spec_SqrI t2); let t56 := (spec_MulI (spec_MulI (spec_MulI (spec_Integer 2) t3) t3) t2); K (spec_MulI (spec_DivI (spec_MajorI d) (spec_AddI (spec_Integer 1) t2)) (spec_AddI (spec_AddI (spec_SubI (spec_AddI (spec_SubI (spec_MulI (spec_AddI (spec_AddI (spec_Integer 1) (spec_DivI t3 (spec_Integer 4))) (spec_DivI (spec_MulI t3 t3) (spec_Integer 64))) t1) (spec_MulI (spec_MulI (spec_MulI (spec_Quotient 3 2) t2) (spec_SubI (spec_Integer 1) (spec_DivI t3 (spec_Integer 8)))) (spec_SinI (spec_MulI (spec_Integer 2) t1)))) (spec_MulI (spec_MulI (spec_MulI (spec_Quotient 15 16) t3) (spec_SubI (spec_Integer 1) (spec_DivI t3 (spec_Integer 4)))) (spec_SinI (spec_MulI (spec_Integer 4) t1)))) (spec_MulI (spec_MulI (spec_MulI (spec_Quotient 35 48) t3) t2) (spec_SinI (spec_MulI (spec_Integer 6) t1)))) (spec_MulI (spec_MulI (spec_MulI (spec_Quotient 315 512) t3) t3) (spec_SinI (spec_MulI (spec_Integer 8) t1)))) (spec_l04Make (w64 (0 - t56.hi)) t56.hi)))
theorem spec_l12Arc.t_eq {ρ : Type} (d : El) (i : Int) (K : Iv → Option ρ) : spec_l12Arc.t d i K = K (spec_l12Arc d i) := rfl
theorem spec_l12Arc.gives (d : El) (i : Int) : GivesV Tryz.prog 35 [cEl.enc d, (cInt .i64).enc i] (cIv.enc (spec_l12Arc d i)) :=
  givesT hmix [spec_l08At.e, spec_ThirdI.e, spec_SqrI.e, spec_Integer.e, spec_DivI.e, spec_AddI.e, spec_MulI.e, spec_Quotient.e, spec_SubI.e, spec_SinI.e, spec_l04Make.e, spec_MajorI.e] 0 none Tryz.func35 rfl rfl ((by kernel_rfl : run1 Tryz.prog (tab [spec_l08At.e, spec_ThirdI.e, spec_SqrI.e, spec_Integer.e, spec_DivI.e, spec_AddI.e, spec_MulI.e, spec_Quotient.e, spec_SubI.e, spec_SinI.e, spec_l04Make.e, spec_MajorI.e]) 0 none noL Tryz.f35 [cEl.enc d, (cInt .i64).enc i] [] = spec_l12Arc.t d i fun r => some (cIv.enc r, [])).trans (spec_l12Arc.t_eq d i _))
def spec_l12Arc.e : Entry Tryz.prog := entry2 cEl (cInt .i64) cIv 35 spec_l12Arc spec_l12Arc.gives

/-! ### spec.l08Ends -/
def spec_l08Ends.t {ρ : Type} (low : Iv) (high : Iv) (K : Iv → Option ρ) : Option ρ := bif (!(spec_l04Ok low)) then (K spec_l04Whole) else (bif (!(spec_l04Ok high)) then (K spec_l04Whole) else (K (spec_l04Make low.lo high.hi)))
theorem spec_l08Ends.t_eq {ρ : Type} (low : Iv) (high : Iv) (K : Iv → Option ρ) : spec_l08Ends.t low high K = K (spec_l08Ends low high) := cq (fun h0 => rfl) (fun h0 => cq (fun h1 => rfl) (fun h1 => rfl))
theorem spec_l08Ends.gives (low : Iv) (high : Iv) : GivesV Tryz.prog 34 [cIv.enc low, cIv.enc high] (cIv.enc (spec_l08Ends low high)) :=
  givesT hmix [spec_l04Ok.e, spec_l04Whole.e, spec_l04Make.e] 0 none Tryz.func34 rfl rfl ((by kernel_rfl : run1 Tryz.prog (tab [spec_l04Ok.e, spec_l04Whole.e, spec_l04Make.e]) 0 none noL Tryz.f34 [cIv.enc low, cIv.enc high] [] = spec_l08Ends.t low high fun r => some (cIv.enc r, [])).trans (spec_l08Ends.t_eq low high _))
def spec_l08Ends.e : Entry Tryz.prog := entry2 cIv cIv cIv 34 spec_l08Ends spec_l08Ends.gives

/-! ### spec.ArcI -/
def spec_ArcI.t {ρ : Type} (e_0 : El) (lat : Iv) (K : Iv → Option ρ) : Option ρ := bif (!(spec_l12Ok e_0)) then (K spec_l04Whole) else (bif (!(spec_InsideI lat (Iv.mk (-8589934592) 8589934592))) then (K spec_l04Whole) else (K (spec_l08Ends (spec_l12Arc e_0 lat.lo) (spec_l12Arc e_0 lat.hi))))
theorem spec_ArcI.t_eq {ρ : Type} (e_0 : El) (lat : Iv) (K : Iv → Option ρ) : spec_ArcI.t e_0 lat K = K (spec_ArcI e_0 lat) := cq (fun h0 => rfl) (fun h0 => cq (fun h1 => rfl) (fun h1 => rfl))
theorem spec_ArcI.gives (e_0 : El) (lat : Iv) : GivesV Tryz.prog 19 [cEl.enc e_0, cIv.enc lat] (cIv.enc (spec_ArcI e_0 lat)) :=
  givesT hmix [spec_l12Ok.e, spec_l04Whole.e, spec_InsideI.e, spec_l12Arc.e, spec_l08Ends.e] 0 none Tryz.func19 rfl rfl ((by kernel_rfl : run1 Tryz.prog (tab [spec_l12Ok.e, spec_l04Whole.e, spec_InsideI.e, spec_l12Arc.e, spec_l08Ends.e]) 0 none noL Tryz.f19 [cEl.enc e_0, cIv.enc lat] [] = spec_ArcI.t e_0 lat fun r => some (cIv.enc r, [])).trans (spec_ArcI.t_eq e_0 lat _))
def spec_ArcI.e : Entry Tryz.prog := entry2 cEl cIv cIv 19 spec_ArcI spec_ArcI.gives

/-! ### impl.within -/
def impl_within.t {ρ : Type} (x : Int) (low : Int) (high : Int) (K : Bool → Option ρ) : Option ρ := bif decide (x ≥ low) then (K (decide (x ≤ high))) else (K false)
theorem impl_within.t_eq {ρ : Type} (x : Int) (low : Int) (high : Int) (K : Bool → Option ρ) : impl_within.t x low high K = K (impl_within x low high) := cq (fun h0 => rfl) (fun h0 => rfl)
theorem impl_within.gives (x : Int) (low : Int) (high : Int) : GivesV Tryz.prog 37 [(cInt .i64).enc x, (cInt .i64).enc low, (cInt .i64).enc high] (cBool.enc (impl_within x low high)) :=
  givesT hmix [] 0 none Tryz.func37 rfl rfl ((by kernel_rfl : run1 Tryz.prog (tab []) 0 none noL Tryz.f37 [(cInt .i64).enc x, (cInt .i64).enc low, (cInt .i64).enc high] [] = impl_within.t x low high fun r => some (cBool.enc r, [])).trans (impl_within.t_eq x low high _))
def impl_within.e : Entry Tryz.prog := entry3 (cInt .i64) (cInt .i64) (cInt .i64) cBool 37 impl_within impl_within.gives

/-! ### impl.ValidEllipsoid -/
def impl_ValidEllipsoid.t {ρ : Type} (e_0 : El) (K : Bool → Option ρ) : Option ρ := bif (impl_within e_0.a 1000 100000000000) then (bif (impl_within e_0.den 1 1000000000000) then (K (impl_within e_0.num 0 (w64 (Int.tdiv e_0.den 100)))) else (K false)) else (K false)
theorem impl_ValidEllipsoid.t_eq {ρ : Type} (e_0 : El) (K : Bool → Option ρ) : impl_ValidEllipsoid.t e_0 K = K (impl_ValidEllipsoid e_0) := cq (fun h0 => cq (fun h1 => rfl) (fun h1 => rfl)) (fun h0 => rfl)
theorem impl_ValidEllipsoid.gives (e_0 : El) : GivesV Tryz.prog 36 [cEl.enc e_0] (cBool.enc (impl_ValidEllipsoid e_0)) :=
  givesT hmix [impl_within.e] 0 none Tryz.func36 rfl rfl ((by kernel_rfl : run1 Tryz.prog (tab [impl_within.e]) 0 none noL Tryz.f36 [cEl.enc e_0] [] = impl_ValidEllipsoid.t e_0 fun r => some (cBool.enc r, [])).trans (impl_ValidEllipsoid.t_eq e_0 _))
def impl_ValidEllipsoid.e : Entry Tryz.prog := entry1 cEl cBool 36 impl_ValidEllipsoid impl_ValidEllipsoid.gives

/-! ### impl.Whole -/
def impl_Whole.t {ρ : Type} (K : Iv → Option ρ) : Option ρ := K (Iv.mk (-1152921504606846976) 1152921504606846976)
theorem impl_Whole.t_eq {ρ : Type} (K : Iv → Option ρ) : impl_Whole.t K = K impl_Whole := rfl
theorem impl_Whole.gives : GivesV Tryz.prog 38 [] (cIv.enc impl_Whole) :=
  givesT hmix [] 0 none Tryz.func38 rfl rfl ((by kernel_rfl : run1 Tryz.prog (tab []) 0 none noL Tryz.f38 [] [] = impl_Whole.t fun r => some (cIv.enc r, [])).trans (impl_Whole.t_eq _))
def impl_Whole.e : Entry Tryz.prog := entry0 cIv 38 impl_Whole impl_Whole.gives

/-! ### impl.ValidInterval -/
def impl_ValidInterval.t {ρ : Type} (i : Iv) (K : Bool → Option ρ) : Option ρ := bif decide ((-1152921504606846976) < i.lo) then (bif decide (i.lo ≤ i.hi) then (K (decide (i.hi < 1152921504606846976))) else (K false)) else (K false)
theorem impl_ValidInterval.t_eq {ρ : Type} (i : Iv) (K : Bool → Option ρ) : impl_ValidInterval.t i K = K (impl_ValidInterval i) := cq (fun h0 => cq (fun h1 => rfl) (fun h1 => rfl)) (fun h0 => rfl)
theorem impl_ValidInterval.gives (i : Iv) : GivesV Tryz.prog 109 [cIv.enc i] (cBool.enc (impl_ValidInterval i)) :=
  givesT hmix [] 0 none Tryz.func109 rfl rfl ((by kernel_rfl : run1 Tryz.prog (tab []) 0 none noL Tryz.f109 [cIv.enc i] [] = impl_ValidInterval.t i fun r => some (cBool.enc r, [])).trans (impl_ValidInterval.t_eq i _))
def impl_ValidInterval.e : Entry Tryz.prog := entry1 cIv cBool 109 impl_ValidInterval impl_ValidInterval.gives

/-! ### impl.IsWhole -/
def impl_IsWhole.t {ρ : Type} (i : Iv) (K : Bool → Option ρ) : Option ρ := K (!(impl_ValidInterval i))
theorem impl_IsWhole.t_eq {ρ : Type} (i : Iv) (K : Bool → Option ρ) : impl_IsWhole.t i K = K (impl_IsWhole i) := rfl
theorem impl_IsWhole.gives (i : Iv) : GivesV Tryz.prog 71 [cIv.enc i] (cBool.enc (impl_IsWhole i)) :=
  givesT hmix [impl_ValidInterval.e] 0 none Tryz.func71 rfl rfl ((by kernel_rfl : run1 Tryz.prog (tab [impl_ValidInterval.e]) 0 none noL Tryz.f71 [cIv.enc i] [] = impl_IsWhole.t i fun r => some (cBool.enc r, [])).trans (impl_IsWhole.t_eq i _))
def impl_IsWhole.e : Entry Tryz.prog := entry1 cIv cBool 71 impl_IsWhole impl_IsWhole.gives

/-! ### bits.Mul64 -/
def bits_Mul64.t {ρ : Type} (x : Int) (y : Int) (K : (Int × Int) → Option ρ) : Option ρ := let x2 := (u64 ((u64 ((Int.fdiv x 4294967296) * (andI .u64 y 4294967295))) + (Int.fdiv (u64 ((andI .u64 x 4294967295) * (andI .u64 y 4294967295))) 4294967296))); K ((u64 ((u64 ((u64 ((Int.fdiv x 4294967296) * (Int.fdiv y 4294967296))) + (Int.fdiv x2 4294967296))) + (Int.fdiv (u64 ((andI .u64 x2 4294967295) + (u64 ((andI .u64 x 4294967295) * (Int.fdiv y 4294967296))))) 4294967296))), (u64 (x * y)))
theorem bits_Mul64.t_eq {ρ : Type} (x : Int) (y : Int) (K : (Int × Int) → Option ρ) : bits_Mul64.t x y K = K (bits_Mul64 x y) := rfl
theorem bits_Mul64.gives (x : Int) (y : Int) : GivesV Tryz.prog 148 [(cInt .u64).enc x, (cInt .u64).enc y] ((cT2 (cInt .u64) (cInt .u64)).enc (bits_Mul64 x y)) :=
  givesT hmix [] 0 none Tryz.func148 rfl rfl ((by kernel_rfl : run1 Tryz.prog (tab []) 0 none noL Tryz.f148 [(cInt .u64).enc x, (cInt .u64).enc y] [] = bits_Mul64.t x y fun r => some ((cT2 (cInt .u64) (cInt .u64)).enc r, [])).trans (bits_Mul64.t_eq x y _))
def bits_Mul64.e : Entry Tryz.prog := entry2 (cInt .u64) (cInt .u64) (cT2 (cInt .u64) (cInt .u64)) 148 bits_Mul64 bits_Mul64.gives

/-! ### impl.WideMul -/
def impl_WideMul.t {ρ : Type} (a : Int) (b : Int) (K : Wd → Option ρ) : Option ρ := let t1 := (bits_Mul64 (u64 a) (u64 b)); bif decide (a < 0) then (bif decide (b < 0) then (K (Wd.mk (w64 (u64 ((u64 (t1.1 - (u64 b))) - (u64 a)))) t1.2)) else (K (Wd.mk (w64 (u64 (t1.1 - (u64 b)))) t1.2))) else (bif decide (b < 0) then (K (Wd.mk (w64 (u64 (t1.1 - (u64 a)))) t1.2)) else (K (Wd.mk (w64 t1.1) t1.2)))
theorem impl_WideMul.t_eq {ρ : Type} (a : Int) (b : Int) (K : Wd → Option ρ) : impl_WideMul.t a b K = K (impl_WideMul a b) := cq (fun h0 => cq (fun h1 => rfl) (fun h1 => rfl)) (fun h0 => cq (fun h1 => rfl) (fun h1 => rfl))
theorem impl_WideMul.gives (a : Int) (b : Int) : GivesV Tryz.prog 123 [(cInt .i64).enc a, (cInt .i64).enc b] (cWd.enc (impl_WideMul a b)) :=
  givesT hmix [bits_Mul64.e] 0 none Tryz.func123 rfl rfl ((by kernel_rfl : run1 Tryz.prog (tab [bits_Mul64.e]) 0 none noL Tryz.f123 [(cInt .i64).enc a, (cInt .i64).enc b] [] = impl_WideMul.t a b fun r => some (cWd.enc r, [])).trans (impl_WideMul.t_eq a b _))
def impl_WideMul.e : Entry Tryz.prog := entry2 (cInt .i64) (cInt .i64) cWd 123 impl_WideMul impl_WideMul.gives

/-! ### bits.Len64 -/
theorem bits_Len64.gives (x : Int) (hpre : (decide (0 ≤ x ∧ x < 18446744073709551616)) = true) : GivesV Tryz.prog 187 [(cInt .u64).enc x] ((cInt .i64).enc (bits_Len64 x)) := by
  simp only [decide_eq_true_eq] at hpre
  exact givesC Tryz.func187 rfl (by kernel_rfl) rfl rfl (fun w => Go.Proofs.Tryz.bits_Len64 x w (by omega) (by omega))
def bits_Len64.e : Entry Tryz.prog := entry1P (cInt .u64) (cInt .i64) 187 bits_Len64 (fun x => decide (0 ≤ x ∧ x < 18446744073709551616)) bits_Len64.gives


/-! ### bits.LeadingZeros64 -/
def bits_LeadingZeros64.t {ρ : Type} (x : Int) (K : Int → Option ρ) : Option ρ := bif decide (0 ≤ x ∧ x < 18446744073709551616) then (K (w64 (64 - (bits_Len64 x)))) else none
theorem bits_LeadingZeros64.t_eq {ρ : Type} (x : Int) (hpre : (decide (0 ≤ x ∧ x < 18446744073709551616)) = true) (K : Int → Option ρ) : bits_LeadingZeros64.t x K = K (bits_LeadingZeros64 x) := cqT (by first | exact u64_neg _ | (simp only [decide_eq_true_eq, decide_eq_false_iff_not] at *; omega) | (simp only [Bool.not_eq_eq_eq_not, Bool.not_false, inside_iff, l00In_iff, decide_eq_true_eq, decide_eq_false_iff_not, w64_def, u64_def] at *; omega)) (fun h0 => rfl)
theorem bits_LeadingZeros64.gives (x : Int) (hpre : (decide (0 ≤ x ∧ x < 18446744073709551616)) = true) : GivesV Tryz.prog 186 [(cInt .u64).enc x] ((cInt .i64).enc (bits_LeadingZeros64 x)) :=
  givesT hmix [bits_Len64.e] 0 none Tryz.func186 rfl rfl ((by kernel_rfl : run1 Tryz.prog (tab [bits_Len64.e]) 0 none noL Tryz.f186 [(cInt .u64).enc x] [] = bits_LeadingZeros64.t x fun r => some ((cInt .i64).enc r, [])).trans (bits_LeadingZeros64.t_eq x hpre _))
def bits_LeadingZeros64.e : Entry Tryz.prog := entry1P (cInt .u64) (cInt .i64) 186 bits_LeadingZeros64 (fun x => decide (0 ≤ x ∧ x < 18446744073709551616)) bits_LeadingZeros64.gives

/-! ### bits.Div64 -/
def bits_Div64.ls : Option (List Nat) := some [2, 8, 9, 10, 11, 13, 14, 15, 16, 17, 18]
def bits_Div64.env17 (y_ : Int) (s_ : Int) (yn1 : Int) (yn0 : Int) (un32 : Int) (un1 : Int) (un0 : Int) (v : Int × Int) : Env := [(2, .int .u64 y_), (8, .int .u64 s_), (9, .int .u64 yn1), (10, .int .u64 yn0), (11, .int .u64 un32), (13, .int .u64 un1), (14, .int .u64 un0), (15, .int .u64 v.1), (16, .int .u64 v.2)]
def bits_Div64.heap17 (y_ : Int) (s_ : Int) (yn1 : Int) (yn0 : Int) (un32 : Int) (un1 : Int) (un0 : Int) (v : Int × Int) : LH := []
def bits_Div64.L17 : LEntry := ⟨17, fun _ tm σ K => match tm, σ with
  | [(2, .int .u64 y_), (8, .int .u64 s_), (9, .int .u64 yn1), (10, .int .u64 yn0), (11, .int .u64 un32), (13, .int .u64 un1), (14, .int .u64 un0), (15, .int .u64 q1), (16, .int .u64 rhat)], [] => (match decide (2147483648 ≤ yn1 ∧ yn1 < 4294967296 ∧ 0 ≤ rhat ∧ rhat < 4294967296) with | true => K (.exit 0) (bits_Div64.env17 y_ s_ yn1 yn0 un32 un1 un0 (bits_Div64.fin17 y_ s_ yn1 yn0 un32 un1 un0 (q1, rhat))) (bits_Div64.heap17 y_ s_ yn1 yn0 un32 un1 un0 (bits_Div64.fin17 y_ s_ yn1 yn0 un32 un1 un0 (q1, rhat))) | false => none)
  | _, _ => none⟩
def bits_Div64.env24 (y_ : Int) (s_ : Int) (yn1 : Int) (yn0 : Int) (un32 : Int) (un1 : Int) (un0 : Int) (q1 : Int) (un21 : Int) (v : Int × Int) : Env := [(2, .int .u64 y_), (8, .int .u64 s_), (9, .int .u64 yn1), (10, .int .u64 yn0), (11, .int .u64 un32), (13, .int .u64 un1), (14, .int .u64 un0), (15, .int .u64 q1), (16, .int .u64 v.1), (17, .int .u64 un21), (18, .int .u64 v.2)]
def bits_Div64.heap24 (y_ : Int) (s_ : Int) (yn1 : Int) (yn0 : Int) (un32 : Int) (un1 : Int) (un0 : Int) (q1 : Int) (un21 : Int) (v : Int × Int) : LH := []
def bits_Div64.L24 : LEntry := ⟨24, fun _ tm σ K => match tm, σ with
  | [(2, .int .u64 y_), (8, .int .u64 s_), (9, .int .u64 yn1), (10, .int .u64 yn0), (11, .int .u64 un32), (13, .int .u64 un1), (14, .int .u64 un0), (15, .int .u64 q1), (16, .int .u64 rhat), (17, .int .u64 un21), (18, .int .u64 q0)], [] => (match decide (2147483648 ≤ yn1 ∧ yn1 < 4294967296 ∧ 0 ≤ rhat ∧ rhat < 4294967296) with | true => K (.exit 2) (bits_Div64.env24 y_ s_ yn1 yn0 un32 un1 un0 q1 un21 (bits_Div64.fin24 y_ s_ yn1 yn0 un32 un1 un0 q1 un21 (rhat, q0))) (bits_Div64.heap24 y_ s_ yn1 yn0 un32 un1 un0 q1 un21 (bits_Div64.fin24 y_ s_ yn1 yn0 un32 un1 un0 q1 un21 (rhat, q0))) | false => none)
  | _, _ => none⟩
def bits_Div64.lt17 {ρ : Type} (y_ : Int) (s_ : Int) (yn1 : Int) (yn0 : Int) (un32 : Int) (un1 : Int) (un0 : Int) (q1 : Int) (rhat : Int) (K : Sum (Int × Int) (Int × Int) → Option ρ) : Option ρ := bif decide (q1 ≥ 4294967296) then (bif decide ((u64 (rhat + yn1)) ≥ 4294967296) then (K (Sum.inr ((u64 (q1 - 1)), (u64 (rhat + yn1))))) else (K (Sum.inl ((u64 (q1 - 1)), (u64 (rhat + yn1)))))) else (bif decide ((u64 (q1 * yn0)) > (u64 ((u64 (4294967296 * rhat)) + un1))) then (bif decide ((u64 (rhat + yn1)) ≥ 4294967296) then (K (Sum.inr ((u64 (q1 - 1)), (u64 (rhat + yn1))))) else (K (Sum.inl ((u64 (q1 - 1)), (u64 (rhat + yn1)))))) else (K (Sum.inr (q1, rhat))))
theorem bits_Div64.lt17_eq {ρ : Type} (y_ : Int) (s_ : Int) (yn1 : Int) (yn0 : Int) (un32 : Int) (un1 : Int) (un0 : Int) (q1 : Int) (rhat : Int) (hpre : 2147483648 ≤ yn1 ∧ yn1 < 4294967296 ∧ 0 ≤ rhat ∧ rhat < 4294967296) (K : Sum (Int × Int) (Int × Int) → Option ρ) : bits_Div64.lt17 y_ s_ yn1 yn0 un32 un1 un0 q1 rhat K = K (bits_Div64.rnd17 y_ s_ yn1 yn0 un32 un1 un0 q1 rhat) := cq (fun h0 => cq (fun h1 => rfl) (fun h1 => rfl)) (fun h0 => cq (fun h1 => cq (fun h2 => rfl) (fun h2 => rfl)) (fun h1 => rfl))
theorem bits_Div64.step17 (y_ : Int) (s_ : Int) (yn1 : Int) (yn0 : Int) (un32 : Int) (un1 : Int) (un0 : Int) (q1 : Int) (rhat : Int) (k : Nat) (R : Type) (K : LX → Env → LH → Option R) : loopN Tryz.prog 0 bits_Div64.ls (k + 1) (exec Tryz.prog (tab (P := Tryz.prog) [bits_LeadingZeros64.e]) 0 135 0 bits_Div64.ls (lam [bits_Div64.L17, bits_Div64.L24]) (cOf Tryz.f184 0)) (bits_Div64.env17 y_ s_ yn1 yn0 un32 un1 un0 (q1, rhat)) (bits_Div64.heap17 y_ s_ yn1 yn0 un32 un1 un0 (q1, rhat)) K = bits_Div64.lt17 y_ s_ yn1 yn0 un32 un1 un0 q1 rhat (sumK (fun v => loopN Tryz.prog 0 bits_Div64.ls k (exec Tryz.prog (tab (P := Tryz.prog) [bits_LeadingZeros64.e]) 0 135 0 bits_Div64.ls (lam [bits_Div64.L17, bits_Div64.L24]) (cOf Tryz.f184 0)) (bits_Div64.env17 y_ s_ yn1 yn0 un32 un1 un0 v) (bits_Div64.heap17 y_ s_ yn1 yn0 un32 un1 un0 v) K) (fun v => K (.exit 0) (bits_Div64.env17 y_ s_ yn1 yn0 un32 un1 un0 v) (bits_Div64.heap17 y_ s_ yn1 yn0 un32 un1 un0 v))) := by kernel_rfl
theorem bits_Div64.dec17 (y_ : Int) (s_ : Int) (yn1 : Int) (yn0 : Int) (un32 : Int) (un1 : Int) (un0 : Int) (v : Int × Int) (hv : 2147483648 ≤ yn1 ∧ yn1 < 4294967296 ∧ 0 ≤ v.2 ∧ v.2 < 4294967296) (v' : Int × Int) (hr : bits_Div64.rnd17 y_ s_ yn1 yn0 un32 un1 un0 v.1 v.2 = Sum.inl v') : (2147483648 ≤ yn1 ∧ yn1 < 4294967296 ∧ 0 ≤ v'.2 ∧ v'.2 < 4294967296) ∧ (if v'.2 < 2147483648 then 1 else 0) < (if v.2 < 2147483648 then 1 else 0) := by
  simp only [bits_Div64.rnd17, Bool.cond_eq_ite, decide_eq_true_eq] at hr
  have e : u64 (v.2 + yn1) = v.2 + yn1 := u64_id (by omega) (by omega)
  simp only [e] at hr
  (repeat' split at hr) <;> cases hr <;> (simp only []; split <;> split <;> omega)
theorem bits_Div64.to17 : bits_Div64.L17.Ok Tryz.prog (tab (P := Tryz.prog) [bits_LeadingZeros64.e]) 0 135 0 bits_Div64.ls (lam [bits_Div64.L17, bits_Div64.L24]) (cOf Tryz.f184 0) := by
  intro R tm σ K r h
  simp only [bits_Div64.L17] at h
  split at h
  case h_2 => simp at h
  split at h
  case h_2 => simp at h
  rename_i y_ s_ yn1 yn0 un32 un1 un0 q1 rhat _ hc
  exact ⟨_, _, _, h, loop_to (x := 0) (rnd := (fun v : Int × Int => bits_Div64.rnd17 y_ s_ yn1 yn0 un32 un1 un0 v.1 v.2)) (env := fun v : Int × Int => bits_Div64.env17 y_ s_ yn1 yn0 un32 un1 un0 v) (heap := fun v : Int × Int => bits_Div64.heap17 y_ s_ yn1 yn0 un32 un1 un0 v) (Inv := (fun v : Int × Int => 2147483648 ≤ yn1 ∧ yn1 < 4294967296 ∧ 0 ≤ v.2 ∧ v.2 < 4294967296)) (μ := (fun v : Int × Int => (if v.2 < 2147483648 then 1 else 0))) (fun v hv k R K => (bits_Div64.step17 y_ s_ yn1 yn0 un32 un1 un0 v.1 v.2 k R K).trans (bits_Div64.lt17_eq y_ s_ yn1 yn0 un32 un1 un0 v.1 v.2 hv (sumK (fun v => loopN Tryz.prog 0 bits_Div64.ls k (exec Tryz.prog (tab (P := Tryz.prog) [bits_LeadingZeros64.e]) 0 135 0 bits_Div64.ls (lam [bits_Div64.L17, bits_Div64.L24]) (cOf Tryz.f184 0)) (bits_Div64.env17 y_ s_ yn1 yn0 un32 un1 un0 v) (bits_Div64.heap17 y_ s_ yn1 yn0 un32 un1 un0 v) K) (fun v => K (.exit 0) (bits_Div64.env17 y_ s_ yn1 yn0 un32 un1 un0 v) (bits_Div64.heap17 y_ s_ yn1 yn0 un32 un1 un0 v))))) (fun v hv v' hr => bits_Div64.dec17 y_ s_ yn1 yn0 un32 un1 un0 v hv v' hr) 2 (q1, rhat) (by have := of_decide_eq_true hc; simp only []; omega) (by simp only []; split <;> omega)⟩
def bits_Div64.lt24 {ρ : Type} (y_ : Int) (s_ : Int) (yn1 : Int) (yn0 : Int) (un32 : Int) (un1 : Int) (un0 : Int) (q1 : Int) (un21 : Int) (rhat : Int) (q0 : Int) (K : Sum (Int × Int) (Int × Int) → Option ρ) : Option ρ := bif decide (q0 ≥ 4294967296) then (bif decide ((u64 (rhat + yn1)) ≥ 4294967296) then (K (Sum.inr ((u64 (rhat + yn1)), (u64 (q0 - 1))))) else (K (Sum.inl ((u64 (rhat + yn1)), (u64 (q0 - 1)))))) else (bif decide ((u64 (q0 * yn0)) > (u64 ((u64 (4294967296 * rhat)) + un0))) then (bif decide ((u64 (rhat + yn1)) ≥ 4294967296) then (K (Sum.inr ((u64 (rhat + yn1)), (u64 (q0 - 1))))) else (K (Sum.inl ((u64 (rhat + yn1)), (u64 (q0 - 1)))))) else (K (Sum.inr (rhat, q0))))
theorem bits_Div64.lt24_eq {ρ : Type} (y_ : Int) (s_ : Int) (yn1 : Int) (yn0 : Int) (un32 : Int) (un1 : Int) (un0 : Int) (q1 : Int) (un21 : Int) (rhat : Int) (q0 : Int) (hpre : 2147483648 ≤ yn1 ∧ yn1 < 4294967296 ∧ 0 ≤ rhat ∧ rhat < 4294967296) (K : Sum (Int × Int) (Int × Int) → Option ρ) : bits_Div64.lt24 y_ s_ yn1 yn0 un32 un1 un0 q1 un21 rhat q0 K = K (bits_Div64.rnd24 y_ s_ yn1 yn0 un32 un1 un0 q1 un21 rhat q0) := cq (fun h0 => cq (fun h1 => rfl) (fun h1 => rfl)) (fun h0 => cq (fun h1 => cq (fun h2 => rfl) (fun h2 => rfl)) (fun h1 => rfl))
theorem bits_Div64.step24 (y_ : Int) (s_ : Int) (yn1 : Int) (yn0 : Int) (un32 : Int) (un1 : Int) (un0 : Int) (q1 : Int) (un21 : Int) (rhat : Int) (q0 : Int) (k : Nat) (R : Type) (K : LX → Env → LH → Option R) : loopN Tryz.prog 0 bits_Div64.ls (k + 1) (exec Tryz.prog (tab (P := Tryz.prog) [bits_LeadingZeros64.e]) 0 135 0 bits_Div64.ls (lam [bits_Div64.L17, bits_Div64.L24]) (cOf Tryz.f184 1)) (bits_Div64.env24 y_ s_ yn1 yn0 un32 un1 un0 q1 un21 (rhat, q0)) (bits_Div64.heap24 y_ s_ yn1 yn0 un32 un1 un0 q1 un21 (rhat, q0)) K = bits_Div64.lt24 y_ s_ yn1 yn0 un32 un1 un0 q1 un21 rhat q0 (sumK (fun v => loopN Tryz.prog 0 bits_Div64.ls k (exec Tryz.prog (tab (P := Tryz.prog) [bits_LeadingZeros64.e]) 0 135 0 bits_Div64.ls (lam [bits_Div64.L17, bits_Div64.L24]) (cOf Tryz.f184 1)) (bits_Div64.env24 y_ s_ yn1 yn0 un32 un1 un0 q1 un21 v) (bits_Div64.heap24 y_ s_ yn1 yn0 un32 un1 un0 q1 un21 v) K) (fun v => K (.exit 2) (bits_Div64.env24 y_ s_ yn1 yn0 un32 un1 un0 q1 un21 v) (bits_Div64.heap24 y_ s_ yn1 yn0 un32 un1 un0 q1 un21 v))) := by kernel_rfl
theorem bits_Div64.dec24 (y_ : Int) (s_ : Int) (yn1 : Int) (yn0 : Int) (un32 : Int) (un1 : Int) (un0 : Int) (q1 : Int) (un21 : Int) (v : Int × Int) (hv : 2147483648 ≤ yn1 ∧ yn1 < 4294967296 ∧ 0 ≤ v.1 ∧ v.1 < 4294967296) (v' : Int × Int) (hr : bits_Div64.rnd24 y_ s_ yn1 yn0 un32 un1 un0 q1 un21 v.1 v.2 = Sum.inl v') : (2147483648 ≤ yn1 ∧ yn1 < 4294967296 ∧ 0 ≤ v'.1 ∧ v'.1 < 4294967296) ∧ (if v'.1 < 2147483648 then 1 else 0) < (if v.1 < 2147483648 then 1 else 0) := by
  simp only [bits_Div64.rnd24, Bool.cond_eq_ite, decide_eq_true_eq] at hr
  have e : u64 (v.1 + yn1) = v.1 + yn1 := u64_id (by omega) (by omega)
  simp only [e] at hr
  (repeat' split at hr) <;> cases hr <;> (simp only []; split <;> split <;> omega)
theorem bits_Div64.to24 : bits_Div64.L24.Ok Tryz.prog (tab (P := Tryz.prog) [bits_LeadingZeros64.e]) 0 135 0 bits_Div64.ls (lam [bits_Div64.L17, bits_Div64.L24]) (cOf Tryz.f184 1) := by
  intro R tm σ K r h
  simp only [bits_Div64.L24] at h
  split at h
  case h_2 => simp at h
  split at h
  case h_2 => simp at h
  rename_i y_ s_ yn1 yn0 un32 un1 un0 q1 rhat un21 q0 _ hc
  exact ⟨_, _, _, h, loop_to (x := 2) (rnd := (fun v : Int × Int => bits_Div64.rnd24 y_ s_ yn1 yn0 un32 un1 un0 q1 un21 v.1 v.2)) (env := fun v : Int × Int => bits_Div64.env24 y_ s_ yn1 yn0 un32 un1 un0 q1 un21 v) (heap := fun v : Int × Int => bits_Div64.heap24 y_ s_ yn1 yn0 un32 un1 un0 q1 un21 v) (Inv := (fun v : Int × Int => 2147483648 ≤ yn1 ∧ yn1 < 4294967296 ∧ 0 ≤ v.1 ∧ v.1 < 4294967296)) (μ := (fun v : Int × Int => (if v.1 < 2147483648 then 1 else 0))) (fun v hv k R K => (bits_Div64.step24 y_ s_ yn1 yn0 un32 un1 un0 q1 un21 v.1 v.2 k R K).trans (bits_Div64.lt24_eq y_ s_ yn1 yn0 un32 un1 un0 q1 un21 v.1 v.2 hv (sumK (fun v => loopN Tryz.prog 0 bits_Div64.ls k (exec Tryz.prog (tab (P := Tryz.prog) [bits_LeadingZeros64.e]) 0 135 0 bits_Div64.ls (lam [bits_Div64.L17, bits_Div64.L24]) (cOf Tryz.f184 1)) (bits_Div64.env24 y_ s_ yn1 yn0 un32 un1 un0 q1 un21 v) (bits_Div64.heap24 y_ s_ yn1 yn0 un32 un1 un0 q1 un21 v) K) (fun v => K (.exit 2) (bits_Div64.env24 y_ s_ yn1 yn0 un32 un1 un0 q1 un21 v) (bits_Div64.heap24 y_ s_ yn1 yn0 un32 un1 un0 q1 un21 v))))) (fun v hv v' hr => bits_Div64.dec24 y_ s_ yn1 yn0 un32 un1 un0 q1 un21 v hv v' hr) 2 (rhat, q0) (by have := of_decide_eq_true hc; simp only []; omega) (by simp only []; split <;> omega)⟩
theorem bits_Div64.lok : ∀ c, Tryz.f184.body = some c → LamOk Tryz.prog (tab (P := Tryz.prog) [bits_LeadingZeros64.e]) 0 Tryz.f184.ntmps 0 bits_Div64.ls (lam [bits_Div64.L17, bits_Div64.L24]) (loopsOf c) := by
  intro c hc
  have hb : loopsOf c = [(cOf Tryz.f184 0), (cOf Tryz.f184 1)] := by
    have h : loopsOf (Tryz.f184.body.getD .skip) = [(cOf Tryz.f184 0), (cOf Tryz.f184 1)] := by kernel_rfl
    rw [hc] at h
    exact h
  exact lam_ok2 hb (by kernel_rfl) (by kernel_rfl) bits_Div64.to17 bits_Div64.to24
def bits_Div64.t {ρ : Type} (d : Int) (i : Int) (a2 : Int) (K : (Int × Int) → Option ρ) : Option ρ := bif (a2 == 0) then none else (bif decide (a2 ≤ d) then none else (bif (d == 0) then (bif decide (a2 = 0) then none else (bif decide (a2 = 0) then none else (K ((u64 (Int.tdiv i a2)), (Int.tmod i a2))))) else (bif decide (0 ≤ a2 ∧ a2 < 18446744073709551616) then (let t1 := (bits_LeadingZeros64 a2); bif decide ((u64 t1) < 0) then none else (let x2 := (Int.fdiv (u64 (a2 * (2 ^ (min (Int.toNat (u64 t1)) 64)))) 4294967296); let x3 := (andI .u64 (u64 (a2 * (2 ^ (min (Int.toNat (u64 t1)) 64)))) 4294967295); bif decide ((u64 t1) < 0) then none else (bif decide ((u64 (64 - (u64 t1))) < 0) then none else (let x5 := (orI .u64 (u64 (d * (2 ^ (min (Int.toNat (u64 t1)) 64)))) (Int.fdiv i (2 ^ (min (Int.toNat (u64 (64 - (u64 t1)))) 64)))); bif decide ((u64 t1) < 0) then none else (let x6 := (Int.fdiv (u64 (i * (2 ^ (min (Int.toNat (u64 t1)) 64)))) 4294967296); let x7 := (andI .u64 (u64 (i * (2 ^ (min (Int.toNat (u64 t1)) 64)))) 4294967295); bif decide (x2 = 0) then none else (bif decide (2147483648 ≤ x2 ∧ x2 < 4294967296 ∧ 0 ≤ (u64 (x5 - (u64 ((u64 (Int.tdiv x5 x2)) * x2)))) ∧ (u64 (x5 - (u64 ((u64 (Int.tdiv x5 x2)) * x2)))) < 4294967296) then (let t8 := (bits_Div64.fin17 ((u64 (a2 * (2 ^ (min (Int.toNat (u64 t1)) 64))))) ((u64 t1)) x2 x3 x5 x6 x7 ((u64 (Int.tdiv x5 x2)), (u64 (x5 - (u64 ((u64 (Int.tdiv x5 x2)) * x2)))))); let x9 := (u64 (t8.1 * (u64 (a2 * (2 ^ (min (Int.toNat (u64 t1)) 64)))))); bif decide (x2 = 0) then none else (let x10 := (u64 (Int.tdiv (u64 ((u64 ((u64 (x5 * 4294967296)) + x6)) - x9)) x2)); let x11 := (u64 ((u64 ((u64 ((u64 (x5 * 4294967296)) + x6)) - x9)) - (u64 (x10 * x2)))); bif decide (2147483648 ≤ x2 ∧ x2 < 4294967296 ∧ 0 ≤ x11 ∧ x11 < 4294967296) then (let t12 := (bits_Div64.fin24 ((u64 (a2 * (2 ^ (min (Int.toNat (u64 t1)) 64))))) ((u64 t1)) x2 x3 x5 x6 x7 t8.1 ((u64 ((u64 ((u64 (x5 * 4294967296)) + x6)) - x9))) (x11, x10)); bif decide ((u64 t1) < 0) then none else (K ((u64 ((u64 (t8.1 * 4294967296)) + t12.2)), (Int.fdiv (u64 ((u64 ((u64 ((u64 ((u64 ((u64 (x5 * 4294967296)) + x6)) - x9)) * 4294967296)) + x7)) - (u64 (t12.2 * (u64 (a2 * (2 ^ (min (Int.toNat (u64 t1)) 64)))))))) (2 ^ (min (Int.toNat (u64 t1)) 64)))))) else none)) else none)))))) else none)))
theorem bits_Div64.t_eq {ρ : Type} (d : Int) (i : Int) (a2 : Int) (hpre : (decide (0 ≤ d ∧ d < a2 ∧ a2 < 18446744073709551616 ∧ 0 ≤ i ∧ i < 18446744073709551616)) = true) (K : (Int × Int) → Option ρ) : bits_Div64.t d i a2 K = K (bits_Div64 d i a2) := cqF (by first | exact u64_neg _ | exact d64_c (d64_x2 hpre) (orI_rng _ _) | exact d64_c (d64_x2 hpre) (u64_rng _) | exact d64_x2_ne hpre | (simp only [decide_eq_true_eq, decide_eq_false_iff_not, beq_eq_false_iff_ne, ne_eq] at *; omega)) (fun h0 => cqF (by first | exact u64_neg _ | exact d64_c (d64_x2 hpre) (orI_rng _ _) | exact d64_c (d64_x2 hpre) (u64_rng _) | exact d64_x2_ne hpre | (simp only [decide_eq_true_eq, decide_eq_false_iff_not, beq_eq_false_iff_ne, ne_eq] at *; omega)) (fun h1 => cq (fun h2 => cqF (by first | exact u64_neg _ | exact d64_c (d64_x2 hpre) (orI_rng _ _) | exact d64_c (d64_x2 hpre) (u64_rng _) | exact d64_x2_ne hpre | (simp only [decide_eq_true_eq, decide_eq_false_iff_not, beq_eq_false_iff_ne, ne_eq] at *; omega)) (fun h3 => cqF (by first | exact u64_neg _ | exact d64_c (d64_x2 hpre) (orI_rng _ _) | exact d64_c (d64_x2 hpre) (u64_rng _) | exact d64_x2_ne hpre | (simp only [decide_eq_true_eq, decide_eq_false_iff_not, beq_eq_false_iff_ne, ne_eq] at *; omega)) (fun h4 => rfl))) (fun h2 => cqT (by first | exact u64_neg _ | exact d64_c (d64_x2 hpre) (orI_rng _ _) | exact d64_c (d64_x2 hpre) (u64_rng _) | exact d64_x2_ne hpre | (simp only [decide_eq_true_eq, decide_eq_false_iff_not, beq_eq_false_iff_ne, ne_eq] at *; omega)) (fun h3 => cqF (by first | exact u64_neg _ | exact d64_c (d64_x2 hpre) (orI_rng _ _) | exact d64_c (d64_x2 hpre) (u64_rng _) | exact d64_x2_ne hpre | (simp only [decide_eq_true_eq, decide_eq_false_iff_not, beq_eq_false_iff_ne, ne_eq] at *; omega)) (fun h4 => cqF (by first | exact u64_neg _ | exact d64_c (d64_x2 hpre) (orI_rng _ _) | exact d64_c (d64_x2 hpre) (u64_rng _) | exact d64_x2_ne hpre | (simp only [decide_eq_true_eq, decide_eq_false_iff_not, beq_eq_false_iff_ne, ne_eq] at *; omega)) (fun h5 => cqF (by first | exact u64_neg _ | exact d64_c (d64_x2 hpre) (orI_rng _ _) | exact d64_c (d64_x2 hpre) (u64_rng _) | exact d64_x2_ne hpre | (simp only [decide_eq_true_eq, decide_eq_false_iff_not, beq_eq_false_iff_ne, ne_eq] at *; omega)) (fun h6 => cqF (by first | exact u64_neg _ | exact d64_c (d64_x2 hpre) (orI_rng _ _) | exact d64_c (d64_x2 hpre) (u64_rng _) | exact d64_x2_ne hpre | (simp only [decide_eq_true_eq, decide_eq_false_iff_not, beq_eq_false_iff_ne, ne_eq] at *; omega)) (fun h7 => cqF (by first | exact u64_neg _ | exact d64_c (d64_x2 hpre) (orI_rng _ _) | exact d64_c (d64_x2 hpre) (u64_rng _) | exact d64_x2_ne hpre | (simp only [decide_eq_true_eq, decide_eq_false_iff_not, beq_eq_false_iff_ne, ne_eq] at *; omega)) (fun h8 => cqT (by first | exact u64_neg _ | exact d64_c (d64_x2 hpre) (orI_rng _ _) | exact d64_c (d64_x2 hpre) (u64_rng _) | exact d64_x2_ne hpre | (simp only [decide_eq_true_eq, decide_eq_false_iff_not, beq_eq_false_iff_ne, ne_eq] at *; omega)) (fun h9 => cqF (by first | exact u64_neg _ | exact d64_c (d64_x2 hpre) (orI_rng _ _) | exact d64_c (d64_x2 hpre) (u64_rng _) | exact d64_x2_ne hpre | (simp only [decide_eq_true_eq, decide_eq_false_iff_not, beq_eq_false_iff_ne, ne_eq] at *; omega)) (fun h10 => cqT (by first | exact u64_neg _ | exact d64_c (d64_x2 hpre) (orI_rng _ _) | exact d64_c (d64_x2 hpre) (u64_rng _) | exact d64_x2_ne hpre | (simp only [decide_eq_true_eq, decide_eq_false_iff_not, beq_eq_false_iff_ne, ne_eq] at *; omega)) (fun h11 => cqF (by first | exact u64_neg _ | exact d64_c (d64_x2 hpre) (orI_rng _ _) | exact d64_c (d64_x2 hpre) (u64_rng _) | exact d64_x2_ne hpre | (simp only [decide_eq_true_eq, decide_eq_false_iff_not, beq_eq_false_iff_ne, ne_eq] at *; omega)) (fun h12 => rfl)))))))))))))
theorem bits_Div64.gives (d : Int) (i : Int) (a2 : Int) (hpre : (decide (0 ≤ d ∧ d < a2 ∧ a2 < 18446744073709551616 ∧ 0 ≤ i ∧ i < 18446744073709551616)) = true) : GivesV Tryz.prog 184 [(cInt .u64).enc d, (cInt .u64).enc i, (cInt .u64).enc a2] ((cT2 (cInt .u64) (cInt .u64)).enc (bits_Div64 d i a2)) :=
  givesL hmix [bits_LeadingZeros64.e] 0 bits_Div64.ls (lam [bits_Div64.L17, bits_Div64.L24]) Tryz.func184 rfl rfl bits_Div64.lok ((by kernel_rfl : run1 Tryz.prog (tab [bits_LeadingZeros64.e]) 0 bits_Div64.ls (lam [bits_Div64.L17, bits_Div64.L24]) Tryz.f184 [(cInt .u64).enc d, (cInt .u64).enc i, (cInt .u64).enc a2] [] = bits_Div64.t d i a2 fun r => some ((cT2 (cInt .u64) (cInt .u64)).enc r, [])).trans (bits_Div64.t_eq d i a2 hpre _))
def bits_Div64.e : Entry Tryz.prog := entry3P (cInt .u64) (cInt .u64) (cInt .u64) (cT2 (cInt .u64) (cInt .u64)) 184 bits_Div64 (fun d i a2 => decide (0 ≤ d ∧ d < a2 ∧ a2 < 18446744073709551616 ∧ 0 ≤ i ∧ i < 18446744073709551616)) bits_Div64.gives

/-! ### impl.divided -/
def impl_divided.t {ρ : Type} (hi_0 : Int) (lo_1 : Int) (d : Int) (K : (Int × Int × Int) → Option ρ) : Option ρ := bif decide (d = 0) then none else (bif decide (d = 0) then none else (bif decide (0 ≤ (Int.tmod hi_0 d) ∧ (Int.tmod hi_0 d) < d ∧ d < 18446744073709551616 ∧ 0 ≤ lo_1 ∧ lo_1 < 18446744073709551616) then (let t1 := (bits_Div64 (Int.tmod hi_0 d) lo_1 d); K ((u64 (Int.tdiv hi_0 d)), t1.1, t1.2)) else none))
theorem impl_divided.t_eq {ρ : Type} (hi_0 : Int) (lo_1 : Int) (d : Int) (hpre : (decide (0 ≤ hi_0 ∧ hi_0 < 18446744073709551616 ∧ 0 ≤ lo_1 ∧ lo_1 < 18446744073709551616 ∧ 0 < d ∧ d < 18446744073709551616)) = true) (K : (Int × Int × Int) → Option ρ) : impl_divided.t hi_0 lo_1 d K = K (impl_divided hi_0 lo_1 d) := cqF (by first | exact pd_divided hpre | (simp only [decide_eq_true_eq, decide_eq_false_iff_not] at *; omega)) (fun h0 => cqF (by first | exact pd_divided hpre | (simp only [decide_eq_true_eq, decide_eq_false_iff_not] at *; omega)) (fun h1 => cqT (by first | exact pd_divided hpre | (simp only [decide_eq_true_eq, decide_eq_false_iff_not] at *; omega)) (fun h2 => rfl)))
theorem impl_divided.gives (hi_0 : Int) (lo_1 : Int) (d : Int) (hpre : (decide (0 ≤ hi_0 ∧ hi_0 < 18446744073709551616 ∧ 0 ≤ lo_1 ∧ lo_1 < 18446744073709551616 ∧ 0 < d ∧ d < 18446744073709551616)) = true) : GivesV Tryz.prog 174 [(cInt .u64).enc hi_0, (cInt .u64).enc lo_1, (cInt .u64).enc d] ((cT3 (cInt .u64) (cInt .u64) (cInt .u64)).enc (impl_divided hi_0 lo_1 d)) :=
  givesT hmix [bits_Div64.e] 0 none Tryz.func174 rfl rfl ((by kernel_rfl : run1 Tryz.prog (tab [bits_Div64.e]) 0 none noL Tryz.f174 [(cInt .u64).enc hi_0, (cInt .u64).enc lo_1, (cInt .u64).enc d] [] = impl_divided.t hi_0 lo_1 d fun r => some ((cT3 (cInt .u64) (cInt .u64) (cInt .u64)).enc r, [])).trans (impl_divided.t_eq hi_0 lo_1 d hpre _))
def impl_divided.e : Entry Tryz.prog := entry3P (cInt .u64) (cInt .u64) (cInt .u64) (cT3 (cInt .u64) (cInt .u64) (cInt .u64)) 174 impl_divided (fun hi_0 lo_1 d => decide (0 ≤ hi_0 ∧ hi_0 < 18446744073709551616 ∧ 0 ≤ lo_1 ∧ lo_1 < 18446744073709551616 ∧ 0 < d ∧ d < 18446744073709551616)) impl_divided.gives

/-! ### bits.Sub64 -/
def sub64E : Array Value → Sem Value := fun args => do
  let (x, y, b) ← Extern.MathBitsCarry.three "Sub64" args
  pure (Extern.MathBitsCarry.pair ((x + Extern.MathBitsCarry.m64 - y - b) % Extern.MathBitsCarry.m64) (if x < y + b then 1 else 0))
theorem bits_Sub64.ext (x y c : Int) (h : decide (0 ≤ c ∧ c ≤ 1) = true) (w : World) : (callFunc 185 #[.int .u64 x, .int .u64 y, .int .u64 c]).run Tryz.prog w = .ok (.value ((cT2 (cInt .u64) (cInt .u64)).enc (bits_Sub64 x y c))) w := by
  have hc : c = 0 ∨ c = 1 := by simp only [decide_eq_true_eq] at h; omega
  rcases hc with rfl | rfl <;> (rw [run_callFunc_extern Tryz.func185 (by kernel_rfl) (by kernel_rfl) (by kernel_rfl) (e := sub64E) (by kernel_rfl)]; rfl)
def bits_Sub64.e : Entry Tryz.prog := entryX3 (cInt .u64) (cInt .u64) (cInt .u64) (cT2 (cInt .u64) (cInt .u64)) 185 bits_Sub64 (fun x y c => decide (0 ≤ c ∧ c ≤ 1)) bits_Sub64.ext


/-! ### impl.Wide).negative -/
def impl_Wide_negative.t {ρ : Type} (w : Wd) (K : Wd → Option ρ) : Option ρ := let t1 := (bits_Sub64 0 w.lo 0); bif decide (0 ≤ t1.2 ∧ t1.2 ≤ 1) then (K (Wd.mk (w64 (bits_Sub64 0 (u64 w.hi) t1.2).1) t1.1)) else none
theorem impl_Wide_negative.t_eq {ρ : Type} (w : Wd) (K : Wd → Option ρ) : impl_Wide_negative.t w K = K (impl_Wide_negative w) := cqT (by exact sub64_borrow _ _ _) (fun h0 => rfl)
theorem impl_Wide_negative.gives (w : Wd) : GivesV Tryz.prog 175 [cWd.enc w] (cWd.enc (impl_Wide_negative w)) :=
  givesT hmix [bits_Sub64.e] 0 none Tryz.func175 rfl rfl ((by kernel_rfl : run1 Tryz.prog (tab [bits_Sub64.e]) 0 none noL Tryz.f175 [cWd.enc w] [] = impl_Wide_negative.t w fun r => some (cWd.enc r, [])).trans (impl_Wide_negative.t_eq w _))
def impl_Wide_negative.e : Entry Tryz.prog := entry1 cWd cWd 175 impl_Wide_negative impl_Wide_negative.gives

/-! ### bits.Add64 -/
theorem bits_Add64.ext (x y c : Int) (h : decide (0 ≤ c ∧ c ≤ 1) = true) (w : World) : (callFunc 176 #[.int .u64 x, .int .u64 y, .int .u64 c]).run Tryz.prog w = .ok (.value ((cT2 (cInt .u64) (cInt .u64)).enc (bits_Add64 x y c))) w := by
  have hc : c = 0 ∨ c = 1 := by simp only [decide_eq_true_eq] at h; omega
  rcases hc with rfl | rfl <;> (rw [run_callFunc_extern Tryz.func176 (by kernel_rfl) (by kernel_rfl) (by kernel_rfl) (e := add64Entry) (by kernel_rfl)]; rfl)
def bits_Add64.e : Entry Tryz.prog := entryX3 (cInt .u64) (cInt .u64) (cInt .u64) (cT2 (cInt .u64) (cInt .u64)) 176 bits_Add64 (fun x y c => decide (0 ≤ c ∧ c ≤ 1)) bits_Add64.ext


/-! ### impl.WideDiv -/
def impl_WideDiv.t {ρ : Type} (d : Wd) (i : Int) (K : (Wd × Int × Bool) → Option ρ) : Option ρ := bif decide (i ≤ 0) then (K ((Wd.mk 0 0), 0, false)) else (bif decide (d.hi ≥ 0) then (bif decide (0 ≤ (u64 d.hi) ∧ (u64 d.hi) < 18446744073709551616 ∧ 0 ≤ d.lo ∧ d.lo < 18446744073709551616 ∧ 0 < (u64 i) ∧ (u64 i) < 18446744073709551616) then (let t1 := (impl_divided (u64 d.hi) d.lo (u64 i)); K ((Wd.mk (w64 t1.1) t1.2.1), (w64 t1.2.2), true)) else none) else (let t2 := (impl_Wide_negative d); bif decide (0 ≤ (u64 t2.hi) ∧ (u64 t2.hi) < 18446744073709551616 ∧ 0 ≤ t2.lo ∧ t2.lo < 18446744073709551616 ∧ 0 < (u64 i) ∧ (u64 i) < 18446744073709551616) then (let t3 := (impl_divided (u64 t2.hi) t2.lo (u64 i)); bif (t3.2.2 == 0) then (K ((impl_Wide_negative (Wd.mk (w64 t3.1) t3.2.1)), 0, true)) else (let t5 := (bits_Add64 t3.2.1 1 0); K ((impl_Wide_negative (Wd.mk (w64 (u64 (t3.1 + t5.2))) t5.1)), (w64 (i - (w64 t3.2.2))), true))) else none))
theorem impl_WideDiv.t_eq {ρ : Type} (d : Wd) (i : Int) (hpre : (decide (0 ≤ d.lo ∧ d.lo < 18446744073709551616 ∧ i ≤ 9223372036854775807)) = true) (K : (Wd × Int × Bool) → Option ρ) : impl_WideDiv.t d i K = K (impl_WideDiv d i) := cq (fun h0 => rfl) (fun h0 => cq (fun h1 => cqT (by first | with_reducible exact pd_wd1 hpre h0 | with_reducible exact pd_wd2 hpre h0) (fun h2 => rfl)) (fun h1 => cqT (by first | with_reducible exact pd_wd1 hpre h0 | with_reducible exact pd_wd2 hpre h0) (fun h2 => cq (fun h3 => rfl) (fun h3 => rfl))))
theorem impl_WideDiv.gives (d : Wd) (i : Int) (hpre : (decide (0 ≤ d.lo ∧ d.lo < 18446744073709551616 ∧ i ≤ 9223372036854775807)) = true) : GivesV Tryz.prog 145 [cWd.enc d, (cInt .i64).enc i] ((cT3 cWd (cInt .i64) cBool).enc (impl_WideDiv d i)) :=
  givesT hmix [impl_divided.e, impl_Wide_negative.e, bits_Add64.e] 0 none Tryz.func145 rfl rfl ((by kernel_rfl : run1 Tryz.prog (tab [impl_divided.e, impl_Wide_negative.e, bits_Add64.e]) 0 none noL Tryz.f145 [cWd.enc d, (cInt .i64).enc i] [] = impl_WideDiv.t d i fun r => some ((cT3 cWd (cInt .i64) cBool).enc r, [])).trans (impl_WideDiv.t_eq d i hpre _))
def impl_WideDiv.e : Entry Tryz.prog := entry2P cWd (cInt .i64) (cT3 cWd (cInt .i64) cBool) 145 impl_WideDiv (fun d i => decide (0 ≤ d.lo ∧ d.lo < 18446744073709551616 ∧ i ≤ 9223372036854775807)) impl_WideDiv.gives

/-! ### impl.WideOf -/
def impl_WideOf.t {ρ : Type} (n : Int) (K : Wd → Option ρ) : Option ρ := K (Wd.mk (Int.fdiv n 9223372036854775808) (u64 n))
theorem impl_WideOf.t_eq {ρ : Type} (n : Int) (K : Wd → Option ρ) : impl_WideOf.t n K = K (impl_WideOf n) := rfl
theorem impl_WideOf.gives (n : Int) : GivesV Tryz.prog 177 [(cInt .i64).enc n] (cWd.enc (impl_WideOf n)) :=
  givesT hmix [] 0 none Tryz.func177 rfl rfl ((by kernel_rfl : run1 Tryz.prog (tab []) 0 none noL Tryz.f177 [(cInt .i64).enc n] [] = impl_WideOf.t n fun r => some (cWd.enc r, [])).trans (impl_WideOf.t_eq n _))
def impl_WideOf.e : Entry Tryz.prog := entry1 (cInt .i64) cWd 177 impl_WideOf impl_WideOf.gives

/-! ### impl.WideInt -/
def impl_WideInt.t {ρ : Type} (w : Wd) (K : (Int × Bool) → Option ρ) : Option ρ := let t1 := (impl_WideOf (w64 w.lo)); bif (!((t1.hi == w.hi) && (t1.lo == w.lo))) then (K (0, false)) else (K ((w64 w.lo), true))
theorem impl_WideInt.t_eq {ρ : Type} (w : Wd) (K : (Int × Bool) → Option ρ) : impl_WideInt.t w K = K (impl_WideInt w) := cq (fun h0 => rfl) (fun h0 => rfl)
theorem impl_WideInt.gives (w : Wd) : GivesV Tryz.prog 146 [cWd.enc w] ((cT2 (cInt .i64) cBool).enc (impl_WideInt w)) :=
  givesT hmix [impl_WideOf.e] 0 none Tryz.func146 rfl rfl ((by kernel_rfl : run1 Tryz.prog (tab [impl_WideOf.e]) 0 none noL Tryz.f146 [cWd.enc w] [] = impl_WideInt.t w fun r => some ((cT2 (cInt .i64) cBool).enc r, [])).trans (impl_WideInt.t_eq w _))
def impl_WideInt.e : Entry Tryz.prog := entry1 cWd (cT2 (cInt .i64) cBool) 146 impl_WideInt impl_WideInt.gives

/-! ### impl.MulDivFloor -/
def impl_MulDivFloor.t {ρ : Type} (a : Int) (b : Int) (d : Int) (K : (Int × Bool) → Option ρ) : Option ρ := let t1 := (impl_WideMul a b); bif decide (0 ≤ t1.lo ∧ t1.lo < 18446744073709551616 ∧ d ≤ 9223372036854775807) then (let t2 := (impl_WideDiv t1 d); bif (!t2.2.2) then (K (0, false)) else (let t3 := (impl_WideInt t2.1); K (t3.1, t3.2))) else none
theorem impl_MulDivFloor.t_eq {ρ : Type} (a : Int) (b : Int) (d : Int) (hpre : (decide (d ≤ 9223372036854775807)) = true) (K : (Int × Bool) → Option ρ) : impl_MulDivFloor.t a b d K = K (impl_MulDivFloor a b d) := cqT (by exact pd_mul hpre) (fun h0 => cq (fun h1 => rfl) (fun h1 => rfl))
theorem impl_MulDivFloor.gives (a : Int) (b : Int) (d : Int) (hpre : (decide (d ≤ 9223372036854775807)) = true) : GivesV Tryz.prog 121 [(cInt .i64).enc a, (cInt .i64).enc b, (cInt .i64).enc d] ((cT2 (cInt .i64) cBool).enc (impl_MulDivFloor a b d)) :=
  givesT hmix [impl_WideMul.e, impl_WideDiv.e, impl_WideInt.e] 0 none Tryz.func121 rfl rfl ((by kernel_rfl : run1 Tryz.prog (tab [impl_WideMul.e, impl_WideDiv.e, impl_WideInt.e]) 0 none noL Tryz.f121 [(cInt .i64).enc a, (cInt .i64).enc b, (cInt .i64).enc d] [] = impl_MulDivFloor.t a b d fun r => some ((cT2 (cInt .i64) cBool).enc r, [])).trans (impl_MulDivFloor.t_eq a b d hpre _))
def impl_MulDivFloor.e : Entry Tryz.prog := entry3P (cInt .i64) (cInt .i64) (cInt .i64) (cT2 (cInt .i64) cBool) 121 impl_MulDivFloor (fun a b d => decide (d ≤ 9223372036854775807)) impl_MulDivFloor.gives

/-! ### impl.ValidFix -/
def impl_ValidFix.t {ρ : Type} (n : Int) (K : Bool → Option ρ) : Option ρ := K (impl_within n (-1152921504606846976) 1152921504606846976)
theorem impl_ValidFix.t_eq {ρ : Type} (n : Int) (K : Bool → Option ρ) : impl_ValidFix.t n K = K (impl_ValidFix n) := rfl
theorem impl_ValidFix.gives (n : Int) : GivesV Tryz.prog 119 [(cInt .i64).enc n] (cBool.enc (impl_ValidFix n)) :=
  givesT hmix [impl_within.e] 0 none Tryz.func119 rfl rfl ((by kernel_rfl : run1 Tryz.prog (tab [impl_within.e]) 0 none noL Tryz.f119 [(cInt .i64).enc n] [] = impl_ValidFix.t n fun r => some (cBool.enc r, [])).trans (impl_ValidFix.t_eq n _))
def impl_ValidFix.e : Entry Tryz.prog := entry1 (cInt .i64) cBool 119 impl_ValidFix impl_ValidFix.gives

/-! ### impl.fixed -/
def impl_fixed.t {ρ : Type} (n : Int) (ok : Bool) (K : (Int × Bool) → Option ρ) : Option ρ := bif (!ok) then (K (0, false)) else (bif (!(impl_ValidFix n)) then (K (0, false)) else (K (n, true)))
theorem impl_fixed.t_eq {ρ : Type} (n : Int) (ok : Bool) (K : (Int × Bool) → Option ρ) : impl_fixed.t n ok K = K (impl_fixed n ok) := cq (fun h0 => rfl) (fun h0 => cq (fun h1 => rfl) (fun h1 => rfl))
theorem impl_fixed.gives (n : Int) (ok : Bool) : GivesV Tryz.prog 120 [(cInt .i64).enc n, cBool.enc ok] ((cT2 (cInt .i64) cBool).enc (impl_fixed n ok)) :=
  givesT hmix [impl_ValidFix.e] 0 none Tryz.func120 rfl rfl ((by kernel_rfl : run1 Tryz.prog (tab [impl_ValidFix.e]) 0 none noL Tryz.f120 [(cInt .i64).enc n, cBool.enc ok] [] = impl_fixed.t n ok fun r => some ((cT2 (cInt .i64) cBool).enc r, [])).trans (impl_fixed.t_eq n ok _))
def impl_fixed.e : Entry Tryz.prog := entry2 (cInt .i64) cBool (cT2 (cInt .i64) cBool) 120 impl_fixed impl_fixed.gives

/-! ### impl.FixFloor -/
def impl_FixFloor.t {ρ : Type} (num : Int) (den : Int) (K : (Int × Bool) → Option ρ) : Option ρ := bif decide (den ≤ 9223372036854775807) then (let t1 := (impl_MulDivFloor num 4294967296 den); let t2 := (impl_fixed t1.1 t1.2); K (t2.1, t2.2)) else none
theorem impl_FixFloor.t_eq {ρ : Type} (num : Int) (den : Int) (hpre : (decide (den ≤ 9223372036854775807)) = true) (K : (Int × Bool) → Option ρ) : impl_FixFloor.t num den K = K (impl_FixFloor num den) := cqT (by first | exact u64_neg _ | (simp only [decide_eq_true_eq, decide_eq_false_iff_not] at *; omega) | (simp only [Bool.not_eq_eq_eq_not, Bool.not_false, inside_iff, l00In_iff, decide_eq_true_eq, decide_eq_false_iff_not, w64_def, u64_def] at *; omega)) (fun h0 => rfl)
theorem impl_FixFloor.gives (num : Int) (den : Int) (hpre : (decide (den ≤ 9223372036854775807)) = true) : GivesV Tryz.prog 112 [(cInt .i64).enc num, (cInt .i64).enc den] ((cT2 (cInt .i64) cBool).enc (impl_FixFloor num den)) :=
  givesT hmix [impl_MulDivFloor.e, impl_fixed.e] 0 none Tryz.func112 rfl rfl ((by kernel_rfl : run1 Tryz.prog (tab [impl_MulDivFloor.e, impl_fixed.e]) 0 none noL Tryz.f112 [(cInt .i64).enc num, (cInt .i64).enc den] [] = impl_FixFloor.t num den fun r => some ((cT2 (cInt .i64) cBool).enc r, [])).trans (impl_FixFloor.t_eq num den hpre _))
def impl_FixFloor.e : Entry Tryz.prog := entry2P (cInt .i64) (cInt .i64) (cT2 (cInt .i64) cBool) 112 impl_FixFloor (fun num den => decide (den ≤ 9223372036854775807)) impl_FixFloor.gives

/-! ### impl.mulDivCeil -/
def impl_mulDivCeil.t {ρ : Type} (a : Int) (b : Int) (d : Int) (K : (Int × Bool) → Option ρ) : Option ρ := let t1 := (impl_WideMul a b); bif decide (0 ≤ t1.lo ∧ t1.lo < 18446744073709551616 ∧ d ≤ 9223372036854775807) then (let t2 := (impl_WideDiv t1 d); bif (!t2.2.2) then (K (0, false)) else (let t3 := (impl_WideInt t2.1); bif (!t3.2) then (K (0, false)) else (bif decide (t2.2.1 > 0) then (bif (t3.1 == 9223372036854775807) then (K (0, false)) else (bif decide (t2.2.1 > 0) then (K ((w64 (t3.1 + 1)), true)) else (K (t3.1, true)))) else (bif decide (t2.2.1 > 0) then (K ((w64 (t3.1 + 1)), true)) else (K (t3.1, true)))))) else none
theorem impl_mulDivCeil.t_eq {ρ : Type} (a : Int) (b : Int) (d : Int) (hpre : (decide (d ≤ 9223372036854775807)) = true) (K : (Int × Bool) → Option ρ) : impl_mulDivCeil.t a b d K = K (impl_mulDivCeil a b d) := cqT (by exact pd_mul hpre) (fun h0 => cq (fun h1 => rfl) (fun h1 => cq (fun h2 => rfl) (fun h2 => cq (fun h3 => cq (fun h4 => rfl) (fun h4 => cq (fun h5 => rfl) (fun h5 => rfl))) (fun h3 => cq (fun h4 => rfl) (fun h4 => rfl)))))
theorem impl_mulDivCeil.gives (a : Int) (b : Int) (d : Int) (hpre : (decide (d ≤ 9223372036854775807)) = true) : GivesV Tryz.prog 139 [(cInt .i64).enc a, (cInt .i64).enc b, (cInt .i64).enc d] ((cT2 (cInt .i64) cBool).enc (impl_mulDivCeil a b d)) :=
  givesT hmix [impl_WideMul.e, impl_WideDiv.e, impl_WideInt.e] 0 none Tryz.func139 rfl rfl ((by kernel_rfl : run1 Tryz.prog (tab [impl_WideMul.e, impl_WideDiv.e, impl_WideInt.e]) 0 none noL Tryz.f139 [(cInt .i64).enc a, (cInt .i64).enc b, (cInt .i64).enc d] [] = impl_mulDivCeil.t a b d fun r => some ((cT2 (cInt .i64) cBool).enc r, [])).trans (impl_mulDivCeil.t_eq a b d hpre _))
def impl_mulDivCeil.e : Entry Tryz.prog := entry3P (cInt .i64) (cInt .i64) (cInt .i64) (cT2 (cInt .i64) cBool) 139 impl_mulDivCeil (fun a b d => decide (d ≤ 9223372036854775807)) impl_mulDivCeil.gives

/-! ### impl.FixCeil -/
def impl_FixCeil.t {ρ : Type} (num : Int) (den : Int) (K : (Int × Bool) → Option ρ) : Option ρ := bif decide (den ≤ 9223372036854775807) then (let t1 := (impl_mulDivCeil num 4294967296 den); let t2 := (impl_fixed t1.1 t1.2); K (t2.1, t2.2)) else none
theorem impl_FixCeil.t_eq {ρ : Type} (num : Int) (den : Int) (hpre : (decide (den ≤ 9223372036854775807)) = true) (K : (Int × Bool) → Option ρ) : impl_FixCeil.t num den K = K (impl_FixCeil num den) := cqT (by first | exact u64_neg _ | (simp only [decide_eq_true_eq, decide_eq_false_iff_not] at *; omega) | (simp only [Bool.not_eq_eq_eq_not, Bool.not_false, inside_iff, l00In_iff, decide_eq_true_eq, decide_eq_false_iff_not, w64_def, u64_def] at *; omega)) (fun h0 => rfl)
theorem impl_FixCeil.gives (num : Int) (den : Int) (hpre : (decide (den ≤ 9223372036854775807)) = true) : GivesV Tryz.prog 113 [(cInt .i64).enc num, (cInt .i64).enc den] ((cT2 (cInt .i64) cBool).enc (impl_FixCeil num den)) :=
  givesT hmix [impl_mulDivCeil.e, impl_fixed.e] 0 none Tryz.func113 rfl rfl ((by kernel_rfl : run1 Tryz.prog (tab [impl_mulDivCeil.e, impl_fixed.e]) 0 none noL Tryz.f113 [(cInt .i64).enc num, (cInt .i64).enc den] [] = impl_FixCeil.t num den fun r => some ((cT2 (cInt .i64) cBool).enc r, [])).trans (impl_FixCeil.t_eq num den hpre _))
def impl_FixCeil.e : Entry Tryz.prog := entry2P (cInt .i64) (cInt .i64) (cT2 (cInt .i64) cBool) 113 impl_FixCeil (fun num den => decide (den ≤ 9223372036854775807)) impl_FixCeil.gives

/-! ### impl.bounded -/
def impl_bounded.t {ρ : Type} (lo_0 : Int) (hi_1 : Int) (ok : Bool) (K : Iv → Option ρ) : Option ρ := bif ok then (bif (impl_ValidInterval (Iv.mk lo_0 hi_1)) then (K (Iv.mk lo_0 hi_1)) else (K impl_Whole)) else (K impl_Whole)
theorem impl_bounded.t_eq {ρ : Type} (lo_0 : Int) (hi_1 : Int) (ok : Bool) (K : Iv → Option ρ) : impl_bounded.t lo_0 hi_1 ok K = K (impl_bounded lo_0 hi_1 ok) := cq (fun h0 => cq (fun h1 => rfl) (fun h1 => rfl)) (fun h0 => rfl)
theorem impl_bounded.gives (lo_0 : Int) (hi_1 : Int) (ok : Bool) : GivesV Tryz.prog 73 [(cInt .i64).enc lo_0, (cInt .i64).enc hi_1, cBool.enc ok] (cIv.enc (impl_bounded lo_0 hi_1 ok)) :=
  givesT hmix [impl_ValidInterval.e, impl_Whole.e] 0 none Tryz.func73 rfl rfl ((by kernel_rfl : run1 Tryz.prog (tab [impl_ValidInterval.e, impl_Whole.e]) 0 none noL Tryz.f73 [(cInt .i64).enc lo_0, (cInt .i64).enc hi_1, cBool.enc ok] [] = impl_bounded.t lo_0 hi_1 ok fun r => some (cIv.enc r, [])).trans (impl_bounded.t_eq lo_0 hi_1 ok _))
def impl_bounded.e : Entry Tryz.prog := entry3 (cInt .i64) (cInt .i64) cBool cIv 73 impl_bounded impl_bounded.gives

/-! ### impl.Quotient -/
def impl_Quotient.t {ρ : Type} (num : Int) (den : Int) (K : Iv → Option ρ) : Option ρ := bif decide (den < 0) then (bif decide ((w64 (0 - den)) < 0) then (K impl_Whole) else (bif ((w64 (0 - num)) == (-9223372036854775808)) then (K impl_Whole) else (bif decide ((w64 (0 - den)) ≤ 9223372036854775807) then (let t3 := (impl_FixFloor (w64 (0 - num)) (w64 (0 - den))); bif decide ((w64 (0 - den)) ≤ 9223372036854775807) then (let t4 := (impl_FixCeil (w64 (0 - num)) (w64 (0 - den))); bif t3.2 then (K (impl_bounded t3.1 t4.1 t4.2)) else (K (impl_bounded t3.1 t4.1 false))) else none) else none))) else (bif decide (den ≤ 9223372036854775807) then (let t7 := (impl_FixFloor num den); bif decide (den ≤ 9223372036854775807) then (let t8 := (impl_FixCeil num den); bif t7.2 then (K (impl_bounded t7.1 t8.1 t8.2)) else (K (impl_bounded t7.1 t8.1 false))) else none) else none)
theorem impl_Quotient.t_eq {ρ : Type} (num : Int) (den : Int) (hpre : (decide (-9223372036854775808 ≤ den ∧ den ≤ 9223372036854775807)) = true) (K : Iv → Option ρ) : impl_Quotient.t num den K = K (impl_Quotient num den) := cq (fun h0 => cq (fun h1 => rfl) (fun h1 => cq (fun h2 => rfl) (fun h2 => cqT (by first | exact u64_neg _ | (simp only [decide_eq_true_eq, decide_eq_false_iff_not] at *; omega) | (simp only [Bool.not_eq_eq_eq_not, Bool.not_false, inside_iff, l00In_iff, decide_eq_true_eq, decide_eq_false_iff_not, w64_def, u64_def] at *; omega)) (fun h3 => cqT (by first | exact u64_neg _ | (simp only [decide_eq_true_eq, decide_eq_false_iff_not] at *; omega) | (simp only [Bool.not_eq_eq_eq_not, Bool.not_false, inside_iff, l00In_iff, decide_eq_true_eq, decide_eq_false_iff_not, w64_def, u64_def] at *; omega)) (fun h4 => cq (fun h5 => rfl) (fun h5 => rfl)))))) (fun h0 => cqT (by first | exact u64_neg _ | (simp only [decide_eq_true_eq, decide_eq_false_iff_not] at *; omega) | (simp only [Bool.not_eq_eq_eq_not, Bool.not_false, inside_iff, l00In_iff, decide_eq_true_eq, decide_eq_false_iff_not, w64_def, u64_def] at *; omega)) (fun h1 => cqT (by first | exact u64_neg _ | (simp only [decide_eq_true_eq, decide_eq_false_iff_not] at *; omega) | (simp only [Bool.not_eq_eq_eq_not, Bool.not_false, inside_iff, l00In_iff, decide_eq_true_eq, decide_eq_false_iff_not, w64_def, u64_def] at *; omega)) (fun h2 => cq (fun h3 => rfl) (fun h3 => rfl))))
theorem impl_Quotient.gives (num : Int) (den : Int) (hpre : (decide (-9223372036854775808 ≤ den ∧ den ≤ 9223372036854775807)) = true) : GivesV Tryz.prog 79 [(cInt .i64).enc num, (cInt .i64).enc den] (cIv.enc (impl_Quotient num den)) :=
  givesT hmix [impl_Whole.e, impl_FixFloor.e, impl_FixCeil.e, impl_bounded.e] 0 none Tryz.func79 rfl rfl ((by kernel_rfl : run1 Tryz.prog (tab [impl_Whole.e, impl_FixFloor.e, impl_FixCeil.e, impl_bounded.e]) 0 none noL Tryz.f79 [(cInt .i64).enc num, (cInt .i64).enc den] [] = impl_Quotient.t num den fun r => some (cIv.enc r, [])).trans (impl_Quotient.t_eq num den hpre _))
def impl_Quotient.e : Entry Tryz.prog := entry2P (cInt .i64) (cInt .i64) cIv 79 impl_Quotient (fun num den => decide (-9223372036854775808 ≤ den ∧ den ≤ 9223372036854775807)) impl_Quotient.gives

/-! ### impl.ThirdI -/
def impl_ThirdI.t {ρ : Type} (e_0 : El) (K : Iv → Option ρ) : Option ρ := bif (!(impl_ValidEllipsoid e_0)) then (K impl_Whole) else (bif decide (-9223372036854775808 ≤ (w64 ((w64 (2 * e_0.den)) - e_0.num)) ∧ (w64 ((w64 (2 * e_0.den)) - e_0.num)) ≤ 9223372036854775807) then (K (impl_Quotient e_0.num (w64 ((w64 (2 * e_0.den)) - e_0.num)))) else none)
theorem impl_ThirdI.t_eq {ρ : Type} (e_0 : El) (K : Iv → Option ρ) : impl_ThirdI.t e_0 K = K (impl_ThirdI e_0) := cq (fun h0 => rfl) (fun h0 => cqT (by exact q_w64 _) (fun h1 => rfl))
theorem impl_ThirdI.gives (e_0 : El) : GivesV Tryz.prog 74 [cEl.enc e_0] (cIv.enc (impl_ThirdI e_0)) :=
  givesT hmix [(inl hmix [impl_ValidEllipsoid.e, impl_Whole.e, (inl hmix [impl_Quotient.e] 1 110 Tryz.f110 Tryz.func110 rfl)] 1 93 Tryz.f93 Tryz.func93 rfl)] 0 none Tryz.func74 rfl rfl ((by kernel_rfl : run1 Tryz.prog (tab [(inl hmix [impl_ValidEllipsoid.e, impl_Whole.e, (inl hmix [impl_Quotient.e] 1 110 Tryz.f110 Tryz.func110 rfl)] 1 93 Tryz.f93 Tryz.func93 rfl)]) 0 none noL Tryz.f74 [cEl.enc e_0] [] = impl_ThirdI.t e_0 fun r => some (cIv.enc r, [])).trans (impl_ThirdI.t_eq e_0 _))
def impl_ThirdI.e : Entry Tryz.prog := entry1 cEl cIv 74 impl_ThirdI impl_ThirdI.gives

/-! ### impl.at -/
def impl_at.t {ρ : Type} (n : Int) (K : Iv → Option ρ) : Option ρ := K (Iv.mk n n)
theorem impl_at.t_eq {ρ : Type} (n : Int) (K : Iv → Option ρ) : impl_at.t n K = K (impl_at n) := rfl
theorem impl_at.gives (n : Int) : GivesV Tryz.prog 75 [(cInt .i64).enc n] (cIv.enc (impl_at n)) :=
  givesT hmix [] 0 none Tryz.func75 rfl rfl ((by kernel_rfl : run1 Tryz.prog (tab []) 0 none noL Tryz.f75 [(cInt .i64).enc n] [] = impl_at.t n fun r => some (cIv.enc r, [])).trans (impl_at.t_eq n _))
def impl_at.e : Entry Tryz.prog := entry1 (cInt .i64) cIv 75 impl_at impl_at.gives

/-! ### impl.abs -/
def impl_abs.t {ρ : Type} (x : Int) (K : Int → Option ρ) : Option ρ := K (mxI x (w64 (0 - x)))
theorem impl_abs.t_eq {ρ : Type} (x : Int) (K : Int → Option ρ) : impl_abs.t x K = K (impl_abs x) := rfl
theorem impl_abs.gives (x : Int) : GivesV Tryz.prog 138 [(cInt .i64).enc x] ((cInt .i64).enc (impl_abs x)) :=
  givesT hmix [] 0 none Tryz.func138 rfl rfl ((by kernel_rfl : run1 Tryz.prog (tab []) 0 none noL Tryz.f138 [(cInt .i64).enc x] [] = impl_abs.t x fun r => some ((cInt .i64).enc r, [])).trans (impl_abs.t_eq x _))
def impl_abs.e : Entry Tryz.prog := entry1 (cInt .i64) (cInt .i64) 138 impl_abs impl_abs.gives

/-! ### impl.HasI -/
def impl_HasI.t {ρ : Type} (a : Iv) (n : Int) (K : Bool → Option ρ) : Option ρ := bif (impl_IsWhole a) then (K true) else (K (impl_within n a.lo a.hi))
theorem impl_HasI.t_eq {ρ : Type} (a : Iv) (n : Int) (K : Bool → Option ρ) : impl_HasI.t a n K = K (impl_HasI a n) := cq (fun h0 => rfl) (fun h0 => rfl)
theorem impl_HasI.gives (a : Iv) (n : Int) : GivesV Tryz.prog 89 [cIv.enc a, (cInt .i64).enc n] (cBool.enc (impl_HasI a n)) :=
  givesT hmix [impl_IsWhole.e, impl_within.e] 0 none Tryz.func89 rfl rfl ((by kernel_rfl : run1 Tryz.prog (tab [impl_IsWhole.e, impl_within.e]) 0 none noL Tryz.f89 [cIv.enc a, (cInt .i64).enc n] [] = impl_HasI.t a n fun r => some (cBool.enc r, [])).trans (impl_HasI.t_eq a n _))
def impl_HasI.e : Entry Tryz.prog := entry2 cIv (cInt .i64) cBool 89 impl_HasI impl_HasI.gives

/-! ### impl.AbsI -/
def impl_AbsI.t {ρ : Type} (a : Iv) (K : Iv → Option ρ) : Option ρ := bif (impl_IsWhole a) then (K impl_Whole) else (let t5 := (impl_abs a.lo); let t6 := (impl_abs a.hi); bif (impl_HasI a 0) then (K (Iv.mk 0 (mxI t5 t6))) else (K (Iv.mk (mnI (impl_abs a.lo) (impl_abs a.hi)) (mxI t5 t6))))
theorem impl_AbsI.t_eq {ρ : Type} (a : Iv) (K : Iv → Option ρ) : impl_AbsI.t a K = K (impl_AbsI a) := cq (fun h0 => rfl) (fun h0 => cq (fun h1 => rfl) (fun h1 => rfl))
theorem impl_AbsI.gives (a : Iv) : GivesV Tryz.prog 111 [cIv.enc a] (cIv.enc (impl_AbsI a)) :=
  givesT hmix [impl_IsWhole.e, impl_Whole.e, impl_abs.e, impl_HasI.e] 0 none Tryz.func111 rfl rfl ((by kernel_rfl : run1 Tryz.prog (tab [impl_IsWhole.e, impl_Whole.e, impl_abs.e, impl_HasI.e]) 0 none noL Tryz.f111 [cIv.enc a] [] = impl_AbsI.t a fun r => some (cIv.enc r, [])).trans (impl_AbsI.t_eq a _))
def impl_AbsI.e : Entry Tryz.prog := entry1 cIv cIv 111 impl_AbsI impl_AbsI.gives

/-! ### impl.WideShift -/
def impl_WideShift.t {ρ : Type} (w : Wd) (n : Int) (K : Wd → Option ρ) : Option ρ := bif (!(impl_within n 0 127)) then (K (Wd.mk 0 0)) else (bif decide (n ≥ 64) then (bif decide ((w64 (n - 64)) < 0) then none else (K (Wd.mk (Int.fdiv w.hi 9223372036854775808) (u64 (Int.fdiv w.hi (2 ^ (min (Int.toNat (w64 (n - 64))) 64))))))) else (bif decide (n < 0) then none else (bif decide (n < 0) then none else (bif decide ((w64 (64 - n)) < 0) then none else (K (Wd.mk (Int.fdiv w.hi (2 ^ (min (Int.toNat n) 64))) (orI .u64 (Int.fdiv w.lo (2 ^ (min (Int.toNat n) 64))) (u64 ((u64 w.hi) * (2 ^ (min (Int.toNat (w64 (64 - n))) 64)))))))))))
theorem impl_WideShift.t_eq {ρ : Type} (w : Wd) (n : Int) (K : Wd → Option ρ) : impl_WideShift.t w n K = K (impl_WideShift w n) := cq (fun h0 => rfl) (fun h0 => cq (fun h1 => cqF (by first | exact u64_neg _ | (simp only [decide_eq_true_eq, decide_eq_false_iff_not] at *; omega) | (simp only [Bool.not_eq_eq_eq_not, Bool.not_false, inside_iff, l00In_iff, decide_eq_true_eq, decide_eq_false_iff_not, w64_def, u64_def] at *; omega)) (fun h2 => rfl)) (fun h1 => cqF (by first | exact u64_neg _ | (simp only [decide_eq_true_eq, decide_eq_false_iff_not] at *; omega) | (simp only [Bool.not_eq_eq_eq_not, Bool.not_false, inside_iff, l00In_iff, decide_eq_true_eq, decide_eq_false_iff_not, w64_def, u64_def] at *; omega)) (fun h2 => cqF (by first | exact u64_neg _ | (simp only [decide_eq_true_eq, decide_eq_false_iff_not] at *; omega) | (simp only [Bool.not_eq_eq_eq_not, Bool.not_false, inside_iff, l00In_iff, decide_eq_true_eq, decide_eq_false_iff_not, w64_def, u64_def] at *; omega)) (fun h3 => cqF (by first | exact u64_neg _ | (simp only [decide_eq_true_eq, decide_eq_false_iff_not] at *; omega) | (simp only [Bool.not_eq_eq_eq_not, Bool.not_false, inside_iff, l00In_iff, decide_eq_true_eq, decide_eq_false_iff_not, w64_def, u64_def] at *; omega)) (fun h4 => rfl)))))
theorem impl_WideShift.gives (w : Wd) (n : Int) : GivesV Tryz.prog 156 [cWd.enc w, (cInt .i64).enc n] (cWd.enc (impl_WideShift w n)) :=
  givesT hmix [impl_within.e] 0 none Tryz.func156 rfl rfl ((by kernel_rfl : run1 Tryz.prog (tab [impl_within.e]) 0 none noL Tryz.f156 [cWd.enc w, (cInt .i64).enc n] [] = impl_WideShift.t w n fun r => some (cWd.enc r, [])).trans (impl_WideShift.t_eq w n _))
def impl_WideShift.e : Entry Tryz.prog := entry2 cWd (cInt .i64) cWd 156 impl_WideShift impl_WideShift.gives

/-! ### impl.MulFloor -/
def impl_MulFloor.t {ρ : Type} (a : Int) (b : Int) (shift : Int) (K : (Int × Bool) → Option ρ) : Option ρ := bif (!(impl_within shift 0 126)) then (K (0, false)) else (let t4 := (impl_WideInt (impl_WideShift (impl_WideMul a b) shift)); K (t4.1, t4.2))
theorem impl_MulFloor.t_eq {ρ : Type} (a : Int) (b : Int) (shift : Int) (K : (Int × Bool) → Option ρ) : impl_MulFloor.t a b shift K = K (impl_MulFloor a b shift) := cq (fun h0 => rfl) (fun h0 => rfl)
theorem impl_MulFloor.gives (a : Int) (b : Int) (shift : Int) : GivesV Tryz.prog 129 [(cInt .i64).enc a, (cInt .i64).enc b, (cInt .i64).enc shift] ((cT2 (cInt .i64) cBool).enc (impl_MulFloor a b shift)) :=
  givesT hmix [impl_within.e, impl_WideMul.e, impl_WideShift.e, impl_WideInt.e] 0 none Tryz.func129 rfl rfl ((by kernel_rfl : run1 Tryz.prog (tab [impl_within.e, impl_WideMul.e, impl_WideShift.e, impl_WideInt.e]) 0 none noL Tryz.f129 [(cInt .i64).enc a, (cInt .i64).enc b, (cInt .i64).enc shift] [] = impl_MulFloor.t a b shift fun r => some ((cT2 (cInt .i64) cBool).enc r, [])).trans (impl_MulFloor.t_eq a b shift _))
def impl_MulFloor.e : Entry Tryz.prog := entry3 (cInt .i64) (cInt .i64) (cInt .i64) (cT2 (cInt .i64) cBool) 129 impl_MulFloor impl_MulFloor.gives

/-! ### impl.MulDown -/
def impl_MulDown.t {ρ : Type} (a : Int) (b : Int) (K : (Int × Bool) → Option ρ) : Option ρ := bif (!(impl_ValidFix a)) then (K (0, false)) else (bif (!(impl_ValidFix b)) then (K (0, false)) else (let t3 := (impl_MulFloor a b 32); let t4 := (impl_fixed t3.1 t3.2); K (t4.1, t4.2)))
theorem impl_MulDown.t_eq {ρ : Type} (a : Int) (b : Int) (K : (Int × Bool) → Option ρ) : impl_MulDown.t a b K = K (impl_MulDown a b) := cq (fun h0 => rfl) (fun h0 => cq (fun h1 => rfl) (fun h1 => rfl))
theorem impl_MulDown.gives (a : Int) (b : Int) : GivesV Tryz.prog 101 [(cInt .i64).enc a, (cInt .i64).enc b] ((cT2 (cInt .i64) cBool).enc (impl_MulDown a b)) :=
  givesT hmix [impl_ValidFix.e, impl_MulFloor.e, impl_fixed.e] 0 none Tryz.func101 rfl rfl ((by kernel_rfl : run1 Tryz.prog (tab [impl_ValidFix.e, impl_MulFloor.e, impl_fixed.e]) 0 none noL Tryz.f101 [(cInt .i64).enc a, (cInt .i64).enc b] [] = impl_MulDown.t a b fun r => some ((cT2 (cInt .i64) cBool).enc r, [])).trans (impl_MulDown.t_eq a b _))
def impl_MulDown.e : Entry Tryz.prog := entry2 (cInt .i64) (cInt .i64) (cT2 (cInt .i64) cBool) 101 impl_MulDown impl_MulDown.gives

/-! ### impl.MulUp -/
def impl_MulUp.t {ρ : Type} (a : Int) (b : Int) (K : (Int × Bool) → Option ρ) : Option ρ := bif (!(impl_ValidFix a)) then (K (0, false)) else (bif (!(impl_ValidFix b)) then (K (0, false)) else (let t3 := (impl_MulDown (w64 (0 - a)) b); K ((w64 (0 - t3.1)), t3.2)))
theorem impl_MulUp.t_eq {ρ : Type} (a : Int) (b : Int) (K : (Int × Bool) → Option ρ) : impl_MulUp.t a b K = K (impl_MulUp a b) := cq (fun h0 => rfl) (fun h0 => cq (fun h1 => rfl) (fun h1 => rfl))
theorem impl_MulUp.gives (a : Int) (b : Int) : GivesV Tryz.prog 102 [(cInt .i64).enc a, (cInt .i64).enc b] ((cT2 (cInt .i64) cBool).enc (impl_MulUp a b)) :=
  givesT hmix [impl_ValidFix.e, impl_MulDown.e] 0 none Tryz.func102 rfl rfl ((by kernel_rfl : run1 Tryz.prog (tab [impl_ValidFix.e, impl_MulDown.e]) 0 none noL Tryz.f102 [(cInt .i64).enc a, (cInt .i64).enc b] [] = impl_MulUp.t a b fun r => some ((cT2 (cInt .i64) cBool).enc r, [])).trans (impl_MulUp.t_eq a b _))
def impl_MulUp.e : Entry Tryz.prog := entry2 (cInt .i64) (cInt .i64) (cT2 (cInt .i64) cBool) 102 impl_MulUp impl_MulUp.gives

/-! ### impl.SqrI -/
def impl_SqrI.t {ρ : Type} (a : Iv) (K : Iv → Option ρ) : Option ρ := bif (impl_IsWhole a) then (K impl_Whole) else (let t3 := (impl_AbsI a); let t4 := (impl_MulDown t3.lo t3.lo); let t5 := (impl_MulUp t3.hi t3.hi); bif t4.2 then (K (impl_bounded t4.1 t5.1 t5.2)) else (K (impl_bounded t4.1 t5.1 false)))
theorem impl_SqrI.t_eq {ρ : Type} (a : Iv) (K : Iv → Option ρ) : impl_SqrI.t a K = K (impl_SqrI a) := cq (fun h0 => rfl) (fun h0 => cq (fun h1 => rfl) (fun h1 => rfl))
theorem impl_SqrI.gives (a : Iv) : GivesV Tryz.prog 76 [cIv.enc a] (cIv.enc (impl_SqrI a)) :=
  givesT hmix [impl_IsWhole.e, impl_Whole.e, impl_AbsI.e, impl_MulDown.e, impl_MulUp.e, impl_bounded.e] 0 none Tryz.func76 rfl rfl ((by kernel_rfl : run1 Tryz.prog (tab [impl_IsWhole.e, impl_Whole.e, impl_AbsI.e, impl_MulDown.e, impl_MulUp.e, impl_bounded.e]) 0 none noL Tryz.f76 [cIv.enc a] [] = impl_SqrI.t a fun r => some (cIv.enc r, [])).trans (impl_SqrI.t_eq a _))
def impl_SqrI.e : Entry Tryz.prog := entry1 cIv cIv 76 impl_SqrI impl_SqrI.gives

/-! ### impl.Integer -/
def impl_Integer.t {ρ : Type} (n : Int) (K : Iv → Option ρ) : Option ρ := bif (!(impl_within n (-268435456) 268435456)) then (K impl_Whole) else (K (impl_bounded (w64 (n * 4294967296)) (w64 (n * 4294967296)) true))
theorem impl_Integer.t_eq {ρ : Type} (n : Int) (K : Iv → Option ρ) : impl_Integer.t n K = K (impl_Integer n) := cq (fun h0 => rfl) (fun h0 => rfl)
theorem impl_Integer.gives (n : Int) : GivesV Tryz.prog 77 [(cInt .i64).enc n] (cIv.enc (impl_Integer n)) :=
  givesT hmix [impl_within.e, impl_Whole.e, impl_bounded.e] 0 none Tryz.func77 rfl rfl ((by kernel_rfl : run1 Tryz.prog (tab [impl_within.e, impl_Whole.e, impl_bounded.e]) 0 none noL Tryz.f77 [(cInt .i64).enc n] [] = impl_Integer.t n fun r => some (cIv.enc r, [])).trans (impl_Integer.t_eq n _))
def impl_Integer.e : Entry Tryz.prog := entry1 (cInt .i64) cIv 77 impl_Integer impl_Integer.gives

/-! ### impl.areBounded -/
def impl_areBounded.t {ρ : Type} (a : Iv) (b : Iv) (K : Bool → Option ρ) : Option ρ := bif (impl_ValidInterval a) then (K (impl_ValidInterval b)) else (K false)
theorem impl_areBounded.t_eq {ρ : Type} (a : Iv) (b : Iv) (K : Bool → Option ρ) : impl_areBounded.t a b K = K (impl_areBounded a b) := cq (fun h0 => rfl) (fun h0 => rfl)
theorem impl_areBounded.gives (a : Iv) (b : Iv) : GivesV Tryz.prog 72 [cIv.enc a, cIv.enc b] (cBool.enc (impl_areBounded a b)) :=
  givesT hmix [impl_ValidInterval.e] 0 none Tryz.func72 rfl rfl ((by kernel_rfl : run1 Tryz.prog (tab [impl_ValidInterval.e]) 0 none noL Tryz.f72 [cIv.enc a, cIv.enc b] [] = impl_areBounded.t a b fun r => some (cBool.enc r, [])).trans (impl_areBounded.t_eq a b _))
def impl_areBounded.e : Entry Tryz.prog := entry2 cIv cIv cBool 72 impl_areBounded impl_areBounded.gives

/-! ### impl.DivDown -/
def impl_DivDown.t {ρ : Type} (a : Int) (b : Int) (K : (Int × Bool) → Option ρ) : Option ρ := bif (!(impl_ValidFix a)) then (K (0, false)) else (bif (!(impl_ValidFix b)) then (K (0, false)) else (bif decide (b < 0) then (bif decide ((w64 (0 - b)) ≤ 9223372036854775807) then (let t3 := (impl_MulDivFloor (w64 (0 - a)) 4294967296 (w64 (0 - b))); let t4 := (impl_fixed t3.1 t3.2); K (t4.1, t4.2)) else none) else (bif decide (b ≤ 9223372036854775807) then (let t5 := (impl_MulDivFloor a 4294967296 b); let t6 := (impl_fixed t5.1 t5.2); K (t6.1, t6.2)) else none)))
theorem impl_DivDown.t_eq {ρ : Type} (a : Int) (b : Int) (K : (Int × Bool) → Option ρ) : impl_DivDown.t a b K = K (impl_DivDown a b) := cq (fun h0 => rfl) (fun h0 => cq (fun h1 => rfl) (fun h1 => cq (fun h2 => cqT (by first | exact decide_eq_true (w64_le _) | exact pd_fix h1) (fun h3 => rfl)) (fun h2 => cqT (by first | exact decide_eq_true (w64_le _) | exact pd_fix h1) (fun h3 => rfl))))
theorem impl_DivDown.gives (a : Int) (b : Int) : GivesV Tryz.prog 91 [(cInt .i64).enc a, (cInt .i64).enc b] ((cT2 (cInt .i64) cBool).enc (impl_DivDown a b)) :=
  givesT hmix [impl_ValidFix.e, impl_MulDivFloor.e, impl_fixed.e] 0 none Tryz.func91 rfl rfl ((by kernel_rfl : run1 Tryz.prog (tab [impl_ValidFix.e, impl_MulDivFloor.e, impl_fixed.e]) 0 none noL Tryz.f91 [(cInt .i64).enc a, (cInt .i64).enc b] [] = impl_DivDown.t a b fun r => some ((cT2 (cInt .i64) cBool).enc r, [])).trans (impl_DivDown.t_eq a b _))
def impl_DivDown.e : Entry Tryz.prog := entry2 (cInt .i64) (cInt .i64) (cT2 (cInt .i64) cBool) 91 impl_DivDown impl_DivDown.gives

/-! ### impl.DivUp -/
def impl_DivUp.t {ρ : Type} (a : Int) (b : Int) (K : (Int × Bool) → Option ρ) : Option ρ := bif (!(impl_ValidFix a)) then (K (0, false)) else (bif (!(impl_ValidFix b)) then (K (0, false)) else (let t3 := (impl_DivDown (w64 (0 - a)) b); K ((w64 (0 - t3.1)), t3.2)))
theorem impl_DivUp.t_eq {ρ : Type} (a : Int) (b : Int) (K : (Int × Bool) → Option ρ) : impl_DivUp.t a b K = K (impl_DivUp a b) := cq (fun h0 => rfl) (fun h0 => cq (fun h1 => rfl) (fun h1 => rfl))
theorem impl_DivUp.gives (a : Int) (b : Int) : GivesV Tryz.prog 92 [(cInt .i64).enc a, (cInt .i64).enc b] ((cT2 (cInt .i64) cBool).enc (impl_DivUp a b)) :=
  givesT hmix [impl_ValidFix.e, impl_DivDown.e] 0 none Tryz.func92 rfl rfl ((by kernel_rfl : run1 Tryz.prog (tab [impl_ValidFix.e, impl_DivDown.e]) 0 none noL Tryz.f92 [(cInt .i64).enc a, (cInt .i64).enc b] [] = impl_DivUp.t a b fun r => some ((cT2 (cInt .i64) cBool).enc r, [])).trans (impl_DivUp.t_eq a b _))
def impl_DivUp.e : Entry Tryz.prog := entry2 (cInt .i64) (cInt .i64) (cT2 (cInt .i64) cBool) 92 impl_DivUp impl_DivUp.gives

/-! ### impl.DivI -/
def impl_DivI.t {ρ : Type} (a : Iv) (b : Iv) (K : Iv → Option ρ) : Option ρ := bif (!(impl_areBounded a b)) then (K impl_Whole) else (bif (impl_HasI b 0) then (K impl_Whole) else (let t5 := (impl_DivDown a.lo b.lo); let t6 := (impl_DivUp a.lo b.lo); bif (!t5.2) then (K impl_Whole) else (bif (!t6.2) then (K impl_Whole) else (let t9 := (impl_DivDown a.lo b.hi); let t10 := (impl_DivUp a.lo b.hi); bif (!t9.2) then (K impl_Whole) else (bif (!t10.2) then (K impl_Whole) else (let t13 := (impl_DivDown a.hi b.lo); let t14 := (impl_DivUp a.hi b.lo); bif (!t13.2) then (K impl_Whole) else (bif (!t14.2) then (K impl_Whole) else (let t17 := (impl_DivDown a.hi b.hi); let t18 := (impl_DivUp a.hi b.hi); bif (!t17.2) then (K impl_Whole) else (bif (!t18.2) then (K impl_Whole) else (K (impl_bounded (mnI (mnI (mnI (mnI t5.1 t5.1) t9.1) t13.1) t17.1) (mxI (mxI (mxI (mxI t6.1 t6.1) t10.1) t14.1) t18.1) true)))))))))))
theorem impl_DivI.t_eq {ρ : Type} (a : Iv) (b : Iv) (K : Iv → Option ρ) : impl_DivI.t a b K = K (impl_DivI a b) := cq (fun h0 => rfl) (fun h0 => cq (fun h1 => rfl) (fun h1 => cq (fun h2 => rfl) (fun h2 => cq (fun h3 => rfl) (fun h3 => cq (fun h4 => rfl) (fun h4 => cq (fun h5 => rfl) (fun h5 => cq (fun h6 => rfl) (fun h6 => cq (fun h7 => rfl) (fun h7 => cq (fun h8 => rfl) (fun h8 => cq (fun h9 => rfl) (fun h9 => rfl))))))))))
theorem impl_DivI.gives (a : Iv) (b : Iv) : GivesV Tryz.prog 46 [cIv.enc a, cIv.enc b] (cIv.enc (impl_DivI a b)) :=
  givesT hmix [impl_areBounded.e, impl_Whole.e, impl_HasI.e, (inl hmix [impl_DivDown.e, impl_DivUp.e, impl_Whole.e, impl_bounded.e] 3 90 Tryz.f90 Tryz.func90 rfl)] 3 none Tryz.func46 rfl rfl ((by kernel_rfl : run1 Tryz.prog (tab [impl_areBounded.e, impl_Whole.e, impl_HasI.e, (inl hmix [impl_DivDown.e, impl_DivUp.e, impl_Whole.e, impl_bounded.e] 3 90 Tryz.f90 Tryz.func90 rfl)]) 3 none noL Tryz.f46 [cIv.enc a, cIv.enc b] [] = impl_DivI.t a b fun r => some (cIv.enc r, [])).trans (impl_DivI.t_eq a b _))
def impl_DivI.e : Entry Tryz.prog := entry2 cIv cIv cIv 46 impl_DivI impl_DivI.gives

/-! ### impl.over -/
def impl_over.t {ρ : Type} (x : Iv) (k : Int) (K : Iv → Option ρ) : Option ρ := K (impl_DivI x (impl_Integer k))
theorem impl_over.t_eq {ρ : Type} (x : Iv) (k : Int) (K : Iv → Option ρ) : impl_over.t x k K = K (impl_over x k) := rfl
theorem impl_over.gives (x : Iv) (k : Int) : GivesV Tryz.prog 78 [cIv.enc x, (cInt .i64).enc k] (cIv.enc (impl_over x k)) :=
  givesT hmix [impl_Integer.e, impl_DivI.e] 0 none Tryz.func78 rfl rfl ((by kernel_rfl : run1 Tryz.prog (tab [impl_Integer.e, impl_DivI.e]) 0 none noL Tryz.f78 [cIv.enc x, (cInt .i64).enc k] [] = impl_over.t x k fun r => some (cIv.enc r, [])).trans (impl_over.t_eq x k _))
def impl_over.e : Entry Tryz.prog := entry2 cIv (cInt .i64) cIv 78 impl_over impl_over.gives

/-! ### impl.AddI -/
def impl_AddI.t {ρ : Type} (a : Iv) (b : Iv) (K : Iv → Option ρ) : Option ρ := bif (!(impl_areBounded a b)) then (K impl_Whole) else (K (impl_bounded (w64 (a.lo + b.lo)) (w64 (a.hi + b.hi)) true))
theorem impl_AddI.t_eq {ρ : Type} (a : Iv) (b : Iv) (K : Iv → Option ρ) : impl_AddI.t a b K = K (impl_AddI a b) := cq (fun h0 => rfl) (fun h0 => rfl)
theorem impl_AddI.gives (a : Iv) (b : Iv) : GivesV Tryz.prog 63 [cIv.enc a, cIv.enc b] (cIv.enc (impl_AddI a b)) :=
  givesT hmix [impl_areBounded.e, impl_Whole.e, impl_bounded.e] 0 none Tryz.func63 rfl rfl ((by kernel_rfl : run1 Tryz.prog (tab [impl_areBounded.e, impl_Whole.e, impl_bounded.e]) 0 none noL Tryz.f63 [cIv.enc a, cIv.enc b] [] = impl_AddI.t a b fun r => some (cIv.enc r, [])).trans (impl_AddI.t_eq a b _))
def impl_AddI.e : Entry Tryz.prog := entry2 cIv cIv cIv 63 impl_AddI impl_AddI.gives

/-! ### impl.MulI -/
def impl_MulI.t {ρ : Type} (a : Iv) (b : Iv) (K : Iv → Option ρ) : Option ρ := bif (!(impl_areBounded a b)) then (K impl_Whole) else (let t3 := (impl_MulDown a.lo b.lo); let t4 := (impl_MulUp a.lo b.lo); bif (!t3.2) then (K impl_Whole) else (bif (!t4.2) then (K impl_Whole) else (let t7 := (impl_MulDown a.lo b.hi); let t8 := (impl_MulUp a.lo b.hi); bif (!t7.2) then (K impl_Whole) else (bif (!t8.2) then (K impl_Whole) else (let t11 := (impl_MulDown a.hi b.lo); let t12 := (impl_MulUp a.hi b.lo); bif (!t11.2) then (K impl_Whole) else (bif (!t12.2) then (K impl_Whole) else (let t15 := (impl_MulDown a.hi b.hi); let t16 := (impl_MulUp a.hi b.hi); bif (!t15.2) then (K impl_Whole) else (bif (!t16.2) then (K impl_Whole) else (K (impl_bounded (mnI (mnI (mnI (mnI t3.1 t3.1) t7.1) t11.1) t15.1) (mxI (mxI (mxI (mxI t4.1 t4.1) t8.1) t12.1) t16.1) true))))))))))
theorem impl_MulI.t_eq {ρ : Type} (a : Iv) (b : Iv) (K : Iv → Option ρ) : impl_MulI.t a b K = K (impl_MulI a b) := cq (fun h0 => rfl) (fun h0 => cq (fun h1 => rfl) (fun h1 => cq (fun h2 => rfl) (fun h2 => cq (fun h3 => rfl) (fun h3 => cq (fun h4 => rfl) (fun h4 => cq (fun h5 => rfl) (fun h5 => cq (fun h6 => rfl) (fun h6 => cq (fun h7 => rfl) (fun h7 => cq (fun h8 => rfl) (fun h8 => rfl)))))))))
theorem impl_MulI.gives (a : Iv) (b : Iv) : GivesV Tryz.prog 55 [cIv.enc a, cIv.enc b] (cIv.enc (impl_MulI a b)) :=
  givesT hmix [impl_areBounded.e, impl_Whole.e, (inl hmix [impl_MulDown.e, impl_MulUp.e, impl_Whole.e, impl_bounded.e] 3 90 Tryz.f90 Tryz.func90 rfl)] 3 none Tryz.func55 rfl rfl ((by kernel_rfl : run1 Tryz.prog (tab [impl_areBounded.e, impl_Whole.e, (inl hmix [impl_MulDown.e, impl_MulUp.e, impl_Whole.e, impl_bounded.e] 3 90 Tryz.f90 Tryz.func90 rfl)]) 3 none noL Tryz.f55 [cIv.enc a, cIv.enc b] [] = impl_MulI.t a b fun r => some (cIv.enc r, [])).trans (impl_MulI.t_eq a b _))
def impl_MulI.e : Entry Tryz.prog := entry2 cIv cIv cIv 55 impl_MulI impl_MulI.gives

/-! ### impl.NegI -/
def impl_NegI.t {ρ : Type} (a : Iv) (K : Iv → Option ρ) : Option ρ := bif (impl_IsWhole a) then (K impl_Whole) else (K (Iv.mk (w64 (0 - a.hi)) (w64 (0 - a.lo))))
theorem impl_NegI.t_eq {ρ : Type} (a : Iv) (K : Iv → Option ρ) : impl_NegI.t a K = K (impl_NegI a) := cq (fun h0 => rfl) (fun h0 => rfl)
theorem impl_NegI.gives (a : Iv) : GivesV Tryz.prog 105 [cIv.enc a] (cIv.enc (impl_NegI a)) :=
  givesT hmix [impl_IsWhole.e, impl_Whole.e] 0 none Tryz.func105 rfl rfl ((by kernel_rfl : run1 Tryz.prog (tab [impl_IsWhole.e, impl_Whole.e]) 0 none noL Tryz.f105 [cIv.enc a] [] = impl_NegI.t a fun r => some (cIv.enc r, [])).trans (impl_NegI.t_eq a _))
def impl_NegI.e : Entry Tryz.prog := entry1 cIv cIv 105 impl_NegI impl_NegI.gives

/-! ### impl.SubI -/
def impl_SubI.t {ρ : Type} (a : Iv) (b : Iv) (K : Iv → Option ρ) : Option ρ := K (impl_AddI a (impl_NegI b))
theorem impl_SubI.t_eq {ρ : Type} (a : Iv) (b : Iv) (K : Iv → Option ρ) : impl_SubI.t a b K = K (impl_SubI a b) := rfl
theorem impl_SubI.gives (a : Iv) (b : Iv) : GivesV Tryz.prog 62 [cIv.enc a, cIv.enc b] (cIv.enc (impl_SubI a b)) :=
  givesT hmix [impl_NegI.e, impl_AddI.e] 0 none Tryz.func62 rfl rfl ((by kernel_rfl : run1 Tryz.prog (tab [impl_NegI.e, impl_AddI.e]) 0 none noL Tryz.f62 [cIv.enc a, cIv.enc b] [] = impl_SubI.t a b fun r => some (cIv.enc r, [])).trans (impl_SubI.t_eq a b _))
def impl_SubI.e : Entry Tryz.prog := entry2 cIv cIv cIv 62 impl_SubI impl_SubI.gives

/-! ### impl.oneLess -/
def impl_oneLess.t {ρ : Type} (x : Iv) (K : Iv → Option ρ) : Option ρ := K (impl_SubI (impl_Integer 1) x)
theorem impl_oneLess.t_eq {ρ : Type} (x : Iv) (K : Iv → Option ρ) : impl_oneLess.t x K = K (impl_oneLess x) := rfl
theorem impl_oneLess.gives (x : Iv) : GivesV Tryz.prog 56 [cIv.enc x] (cIv.enc (impl_oneLess x)) :=
  givesT hmix [impl_Integer.e, impl_SubI.e] 0 none Tryz.func56 rfl rfl ((by kernel_rfl : run1 Tryz.prog (tab [impl_Integer.e, impl_SubI.e]) 0 none noL Tryz.f56 [cIv.enc x] [] = impl_oneLess.t x fun r => some (cIv.enc r, [])).trans (impl_oneLess.t_eq x _))
def impl_oneLess.e : Entry Tryz.prog := entry1 cIv cIv 56 impl_oneLess impl_oneLess.gives

/-! ### impl.times -/
def impl_times.t {ρ : Type} (k : Int) (x : Iv) (K : Iv → Option ρ) : Option ρ := K (impl_MulI (impl_Integer k) x)
theorem impl_times.t_eq {ρ : Type} (k : Int) (x : Iv) (K : Iv → Option ρ) : impl_times.t k x K = K (impl_times k x) := rfl
theorem impl_times.gives (k : Int) (x : Iv) : GivesV Tryz.prog 80 [(cInt .i64).enc k, cIv.enc x] (cIv.enc (impl_times k x)) :=
  givesT hmix [impl_Integer.e, impl_MulI.e] 0 none Tryz.func80 rfl rfl ((by kernel_rfl : run1 Tryz.prog (tab [impl_Integer.e, impl_MulI.e]) 0 none noL Tryz.f80 [(cInt .i64).enc k, cIv.enc x] [] = impl_times.t k x fun r => some (cIv.enc r, [])).trans (impl_times.t_eq k x _))
def impl_times.e : Entry Tryz.prog := entry2 (cInt .i64) cIv cIv 80 impl_times impl_times.gives

/-! ### impl.isAngle -/
def impl_isAngle.t {ρ : Type} (n : Int) (K : Bool → Option ρ) : Option ρ := K (impl_within n (-1099511627776) 1099511627776)
theorem impl_isAngle.t_eq {ρ : Type} (n : Int) (K : Bool → Option ρ) : impl_isAngle.t n K = K (impl_isAngle n) := rfl
theorem impl_isAngle.gives (n : Int) : GivesV Tryz.prog 149 [(cInt .i64).enc n] (cBool.enc (impl_isAngle n)) :=
  givesT hmix [impl_within.e] 0 none Tryz.func149 rfl rfl ((by kernel_rfl : run1 Tryz.prog (tab [impl_within.e]) 0 none noL Tryz.f149 [(cInt .i64).enc n] [] = impl_isAngle.t n fun r => some (cBool.enc r, [])).trans (impl_isAngle.t_eq n _))
def impl_isAngle.e : Entry Tryz.prog := entry1 (cInt .i64) cBool 149 impl_isAngle impl_isAngle.gives

/-! ### impl.areAngles -/
def impl_areAngles.t {ρ : Type} (x : Iv) (K : Bool → Option ρ) : Option ρ := bif (impl_ValidInterval x) then (bif (impl_isAngle x.lo) then (K (impl_isAngle x.hi)) else (K false)) else (K false)
theorem impl_areAngles.t_eq {ρ : Type} (x : Iv) (K : Bool → Option ρ) : impl_areAngles.t x K = K (impl_areAngles x) := cq (fun h0 => cq (fun h1 => rfl) (fun h1 => rfl)) (fun h0 => rfl)
theorem impl_areAngles.gives (x : Iv) : GivesV Tryz.prog 124 [cIv.enc x] (cBool.enc (impl_areAngles x)) :=
  givesT hmix [impl_ValidInterval.e, impl_isAngle.e] 0 none Tryz.func124 rfl rfl ((by kernel_rfl : run1 Tryz.prog (tab [impl_ValidInterval.e, impl_isAngle.e]) 0 none noL Tryz.f124 [cIv.enc x] [] = impl_areAngles.t x fun r => some (cBool.enc r, [])).trans (impl_areAngles.t_eq x _))
def impl_areAngles.e : Entry Tryz.prog := entry1 cIv cBool 124 impl_areAngles impl_areAngles.gives

/-! ### impl.ring -/
def impl_ring.t {ρ : Type} (K : Iv → Option ρ) : Option ρ := K (Iv.mk (-4294967296) 4294967296)
theorem impl_ring.t_eq {ρ : Type} (K : Iv → Option ρ) : impl_ring.t K = K impl_ring := rfl
theorem impl_ring.gives : GivesV Tryz.prog 125 [] (cIv.enc impl_ring) :=
  givesT hmix [] 0 none Tryz.func125 rfl rfl ((by kernel_rfl : run1 Tryz.prog (tab []) 0 none noL Tryz.f125 [] [] = impl_ring.t fun r => some (cIv.enc r, [])).trans (impl_ring.t_eq _))
def impl_ring.e : Entry Tryz.prog := entry0 cIv 125 impl_ring impl_ring.gives

/-! ### impl.QuarterOf -/
def impl_QuarterOf.t {ρ : Type} (n : Int) (K : Int → Option ρ) : Option ρ := bif (!(impl_isAngle n)) then (K 0) else (bif decide ((w64 ((w64 (Int.tdiv (w64 (n + 3373259426)) 6746518852)) * 6746518852)) > (w64 (n + 3373259426))) then (K (w64 ((w64 (Int.tdiv (w64 (n + 3373259426)) 6746518852)) - 1))) else (K (w64 (Int.tdiv (w64 (n + 3373259426)) 6746518852))))
theorem impl_QuarterOf.t_eq {ρ : Type} (n : Int) (K : Int → Option ρ) : impl_QuarterOf.t n K = K (impl_QuarterOf n) := cq (fun h0 => rfl) (fun h0 => cq (fun h1 => rfl) (fun h1 => rfl))
theorem impl_QuarterOf.gives (n : Int) : GivesV Tryz.prog 150 [(cInt .i64).enc n] ((cInt .i64).enc (impl_QuarterOf n)) :=
  givesT hmix [impl_isAngle.e] 0 none Tryz.func150 rfl rfl ((by kernel_rfl : run1 Tryz.prog (tab [impl_isAngle.e]) 0 none noL Tryz.f150 [(cInt .i64).enc n] [] = impl_QuarterOf.t n fun r => some ((cInt .i64).enc r, [])).trans (impl_QuarterOf.t_eq n _))
def impl_QuarterOf.e : Entry Tryz.prog := entry1 (cInt .i64) (cInt .i64) 150 impl_QuarterOf impl_QuarterOf.gives

/-! ### impl.TurnI -/
def impl_TurnI.A.t {ρ : Type} (k : Int) (K : Iv → Option ρ) : Option ρ := bif (!(impl_within k (-4096) 4096)) then (K impl_Whole) else (bif decide (k < 0) then none else (bif (k == 0) then (K (Iv.mk 0 0)) else (let t3 := (impl_MulFloor k 7244019458077122842 30); K (Iv.mk t3.1 (w64 (t3.1 + 1))))))
theorem impl_TurnI.A.t_eq {ρ : Type} (k : Int) (hpre : (decide (0 ≤ k)) = true) (K : Iv → Option ρ) : impl_TurnI.A.t k K = K (impl_TurnI.A k) := cq (fun h0 => rfl) (fun h0 => cqF (by first | exact u64_neg _ | (simp only [decide_eq_true_eq, decide_eq_false_iff_not] at *; omega) | (simp only [Bool.not_eq_eq_eq_not, Bool.not_false, inside_iff, l00In_iff, decide_eq_true_eq, decide_eq_false_iff_not, w64_def, u64_def] at *; omega)) (fun h1 => cq (fun h2 => rfl) (fun h2 => rfl)))
theorem impl_TurnI.A.gives (k : Int) (hpre : (decide (0 ≤ k)) = true) : GivesV Tryz.prog 151 [(cInt .i64).enc k] (cIv.enc (impl_TurnI.A k)) :=
  givesT hmix [impl_within.e, impl_Whole.e, impl_MulFloor.e] 0 none Tryz.func151 rfl rfl ((by kernel_rfl : run1 Tryz.prog (tab [impl_within.e, impl_Whole.e, impl_MulFloor.e]) 0 none noL Tryz.f151 [(cInt .i64).enc k] [] = impl_TurnI.A.t k fun r => some (cIv.enc r, [])).trans (impl_TurnI.A.t_eq k hpre _))
def impl_TurnI.A.e : Entry Tryz.prog := entry1P (cInt .i64) cIv 151 impl_TurnI.A (fun k => decide (0 ≤ k)) impl_TurnI.A.gives
/-! ### impl.TurnI -/
def impl_TurnI.t {ρ : Type} (k : Int) (K : Iv → Option ρ) : Option ρ := bif (!(impl_within k (-4096) 4096)) then (K impl_Whole) else (bif decide (k < 0) then (bif decide (0 ≤ (w64 (0 - k))) then (K (impl_NegI (impl_TurnI.A (w64 (0 - k))))) else none) else (bif (k == 0) then (K (Iv.mk 0 0)) else (let t5 := (impl_MulFloor k 7244019458077122842 30); K (Iv.mk t5.1 (w64 (t5.1 + 1))))))
theorem impl_TurnI.t_eq {ρ : Type} (k : Int) (K : Iv → Option ρ) : impl_TurnI.t k K = K (impl_TurnI k) := cq (fun h0 => rfl) (fun h0 => cq (fun h1 => cqT (by first | exact u64_neg _ | (simp only [decide_eq_true_eq, decide_eq_false_iff_not] at *; omega) | (simp only [Bool.not_eq_eq_eq_not, Bool.not_false, inside_iff, l00In_iff, decide_eq_true_eq, decide_eq_false_iff_not, w64_def, u64_def] at *; omega)) (fun h2 => rfl)) (fun h1 => cq (fun h2 => rfl) (fun h2 => rfl)))
theorem impl_TurnI.gives (k : Int) : GivesV Tryz.prog 151 [(cInt .i64).enc k] (cIv.enc (impl_TurnI k)) :=
  givesT hmix [impl_within.e, impl_Whole.e, impl_TurnI.A.e, impl_NegI.e, impl_MulFloor.e] 0 none Tryz.func151 rfl rfl ((by kernel_rfl : run1 Tryz.prog (tab [impl_within.e, impl_Whole.e, impl_TurnI.A.e, impl_NegI.e, impl_MulFloor.e]) 0 none noL Tryz.f151 [(cInt .i64).enc k] [] = impl_TurnI.t k fun r => some (cIv.enc r, [])).trans (impl_TurnI.t_eq k _))
def impl_TurnI.e : Entry Tryz.prog := entry1 (cInt .i64) cIv 151 impl_TurnI impl_TurnI.gives

/-! ### impl.InsideI -/
def impl_InsideI.t {ρ : Type} (a : Iv) (b : Iv) (K : Bool → Option ρ) : Option ρ := bif (impl_IsWhole a) then (K (impl_IsWhole b)) else (bif (impl_IsWhole b) then (K (impl_IsWhole b)) else (bif decide (b.lo ≤ a.lo) then (K (decide (a.hi ≤ b.hi))) else (K false)))
theorem impl_InsideI.t_eq {ρ : Type} (a : Iv) (b : Iv) (K : Bool → Option ρ) : impl_InsideI.t a b K = K (impl_InsideI a b) := cq (fun h0 => rfl) (fun h0 => cq (fun h1 => rfl) (fun h1 => cq (fun h2 => rfl) (fun h2 => rfl)))
theorem impl_InsideI.gives (a : Iv) (b : Iv) : GivesV Tryz.prog 179 [cIv.enc a, cIv.enc b] (cBool.enc (impl_InsideI a b)) :=
  givesT hmix [impl_IsWhole.e] 0 none Tryz.func179 rfl rfl ((by kernel_rfl : run1 Tryz.prog (tab [impl_IsWhole.e]) 0 none noL Tryz.f179 [cIv.enc a, cIv.enc b] [] = impl_InsideI.t a b fun r => some (cBool.enc r, [])).trans (impl_InsideI.t_eq a b _))
def impl_InsideI.e : Entry Tryz.prog := entry2 cIv cIv cBool 179 impl_InsideI impl_InsideI.gives

/-! ### impl.series -/
def impl_series.t {ρ : Type} (y : Iv) (first : Int) (K : Iv → Option ρ) : Option ρ := K (impl_SubI (impl_Integer 1) (impl_MulI (impl_DivI y (impl_Integer (w64 ((w64 (first + 0)) * (w64 ((w64 (first + 0)) + 1)))))) (impl_SubI (impl_Integer 1) (impl_MulI (impl_DivI y (impl_Integer (w64 ((w64 (first + 2)) * (w64 ((w64 (first + 2)) + 1)))))) (impl_SubI (impl_Integer 1) (impl_MulI (impl_DivI y (impl_Integer (w64 ((w64 (first + 4)) * (w64 ((w64 (first + 4)) + 1)))))) (impl_SubI (impl_Integer 1) (impl_MulI (impl_DivI y (impl_Integer (w64 ((w64 (first + 6)) * (w64 ((w64 (first + 6)) + 1)))))) (impl_SubI (impl_Integer 1) (impl_MulI (impl_DivI y (impl_Integer (w64 ((w64 (first + 8)) * (w64 ((w64 (first + 8)) + 1)))))) (impl_SubI (impl_Integer 1) (impl_MulI (impl_DivI y (impl_Integer (w64 ((w64 (first + 10)) * (w64 ((w64 (first + 10)) + 1)))))) (impl_SubI (impl_Integer 1) (impl_MulI (impl_DivI y (impl_Integer (w64 ((w64 (first + 12)) * (w64 ((w64 (first + 12)) + 1)))))) (impl_SubI (impl_Integer 1) (impl_MulI (impl_DivI y (impl_Integer (w64 ((w64 (first + 14)) * (w64 ((w64 (first + 14)) + 1)))))) (impl_Integer 1)))))))))))))))))
theorem impl_series.t_eq {ρ : Type} (y : Iv) (first : Int) (K : Iv → Option ρ) : impl_series.t y first K = K (impl_series y first) := rfl
theorem impl_series.gives (y : Iv) (first : Int) : GivesV Tryz.prog 180 [cIv.enc y, (cInt .i64).enc first] (cIv.enc (impl_series y first)) :=
  givesT hmix [impl_Integer.e, impl_DivI.e, impl_MulI.e, impl_SubI.e] 9 none Tryz.func180 rfl rfl ((by kernel_rfl : run1 Tryz.prog (tab [impl_Integer.e, impl_DivI.e, impl_MulI.e, impl_SubI.e]) 9 none noL Tryz.f180 [cIv.enc y, (cInt .i64).enc first] [] = impl_series.t y first fun r => some (cIv.enc r, [])).trans (impl_series.t_eq y first _))
def impl_series.e : Entry Tryz.prog := entry2 cIv (cInt .i64) cIv 180 impl_series impl_series.gives

/-! ### impl.tiny -/
def impl_tiny.t {ρ : Type} (K : Iv → Option ρ) : Option ρ := K (Iv.mk (-1) 1)
theorem impl_tiny.t_eq {ρ : Type} (K : Iv → Option ρ) : impl_tiny.t K = K impl_tiny := rfl
theorem impl_tiny.gives : GivesV Tryz.prog 181 [] (cIv.enc impl_tiny) :=
  givesT hmix [] 0 none Tryz.func181 rfl rfl ((by kernel_rfl : run1 Tryz.prog (tab []) 0 none noL Tryz.f181 [] [] = impl_tiny.t fun r => some (cIv.enc r, [])).trans (impl_tiny.t_eq _))
def impl_tiny.e : Entry Tryz.prog := entry0 cIv 181 impl_tiny impl_tiny.gives

/-! ### impl.SinSeries -/
def impl_SinSeries.t {ρ : Type} (x : Iv) (K : Iv → Option ρ) : Option ρ := bif (!(impl_InsideI x impl_ring)) then (K impl_Whole) else (K (impl_AddI (impl_MulI x (impl_series (impl_SqrI x) 2)) impl_tiny))
theorem impl_SinSeries.t_eq {ρ : Type} (x : Iv) (K : Iv → Option ρ) : impl_SinSeries.t x K = K (impl_SinSeries x) := cq (fun h0 => rfl) (fun h0 => rfl)
theorem impl_SinSeries.gives (x : Iv) : GivesV Tryz.prog 153 [cIv.enc x] (cIv.enc (impl_SinSeries x)) :=
  givesT hmix [impl_ring.e, impl_InsideI.e, impl_Whole.e, impl_SqrI.e, impl_series.e, impl_MulI.e, impl_tiny.e, impl_AddI.e] 0 none Tryz.func153 rfl rfl ((by kernel_rfl : run1 Tryz.prog (tab [impl_ring.e, impl_InsideI.e, impl_Whole.e, impl_SqrI.e, impl_series.e, impl_MulI.e, impl_tiny.e, impl_AddI.e]) 0 none noL Tryz.f153 [cIv.enc x] [] = impl_SinSeries.t x fun r => some (cIv.enc r, [])).trans (impl_SinSeries.t_eq x _))
def impl_SinSeries.e : Entry Tryz.prog := entry1 cIv cIv 153 impl_SinSeries impl_SinSeries.gives

/-! ### impl.MeetI -/
def impl_MeetI.t {ρ : Type} (a : Iv) (b : Iv) (K : (Iv × Bool) → Option ρ) : Option ρ := bif (impl_IsWhole a) then (bif (impl_IsWhole b) then (K (impl_Whole, true)) else (bif (impl_IsWhole a) then (K (b, true)) else (bif (impl_IsWhole b) then (K (a, true)) else (bif decide ((mxI a.lo b.lo) > (mnI a.hi b.hi)) then (K ((Iv.mk 0 0), false)) else (K ((Iv.mk (mxI a.lo b.lo) (mnI a.hi b.hi)), true)))))) else (bif (impl_IsWhole a) then (K (b, true)) else (bif (impl_IsWhole b) then (K (a, true)) else (bif decide ((mxI a.lo b.lo) > (mnI a.hi b.hi)) then (K ((Iv.mk 0 0), false)) else (K ((Iv.mk (mxI a.lo b.lo) (mnI a.hi b.hi)), true)))))
theorem impl_MeetI.t_eq {ρ : Type} (a : Iv) (b : Iv) (K : (Iv × Bool) → Option ρ) : impl_MeetI.t a b K = K (impl_MeetI a b) := cq (fun h0 => cq (fun h1 => rfl) (fun h1 => cq (fun h2 => rfl) (fun h2 => cq (fun h3 => rfl) (fun h3 => cq (fun h4 => rfl) (fun h4 => rfl))))) (fun h0 => cq (fun h1 => rfl) (fun h1 => cq (fun h2 => rfl) (fun h2 => cq (fun h3 => rfl) (fun h3 => rfl))))
theorem impl_MeetI.gives (a : Iv) (b : Iv) : GivesV Tryz.prog 178 [cIv.enc a, cIv.enc b] ((cT2 cIv cBool).enc (impl_MeetI a b)) :=
  givesT hmix [impl_IsWhole.e, impl_Whole.e] 0 none Tryz.func178 rfl rfl ((by kernel_rfl : run1 Tryz.prog (tab [impl_IsWhole.e, impl_Whole.e]) 0 none noL Tryz.f178 [cIv.enc a, cIv.enc b] [] = impl_MeetI.t a b fun r => some ((cT2 cIv cBool).enc r, [])).trans (impl_MeetI.t_eq a b _))
def impl_MeetI.e : Entry Tryz.prog := entry2 cIv cIv (cT2 cIv cBool) 178 impl_MeetI impl_MeetI.gives

/-! ### impl.inRing -/
def impl_inRing.t {ρ : Type} (x : Iv) (K : Iv → Option ρ) : Option ρ := K ((impl_MeetI x impl_ring).1)
theorem impl_inRing.t_eq {ρ : Type} (x : Iv) (K : Iv → Option ρ) : impl_inRing.t x K = K (impl_inRing x) := rfl
theorem impl_inRing.gives (x : Iv) : GivesV Tryz.prog 152 [cIv.enc x] (cIv.enc (impl_inRing x)) :=
  givesT hmix [impl_ring.e, impl_MeetI.e] 0 none Tryz.func152 rfl rfl ((by kernel_rfl : run1 Tryz.prog (tab [impl_ring.e, impl_MeetI.e]) 0 none noL Tryz.f152 [cIv.enc x] [] = impl_inRing.t x fun r => some (cIv.enc r, [])).trans (impl_inRing.t_eq x _))
def impl_inRing.e : Entry Tryz.prog := entry1 cIv cIv 152 impl_inRing impl_inRing.gives

/-! ### impl.CosSeries -/
def impl_CosSeries.t {ρ : Type} (x : Iv) (K : Iv → Option ρ) : Option ρ := bif (!(impl_InsideI x impl_ring)) then (K impl_Whole) else (K (impl_AddI (impl_series (impl_SqrI x) 1) impl_tiny))
theorem impl_CosSeries.t_eq {ρ : Type} (x : Iv) (K : Iv → Option ρ) : impl_CosSeries.t x K = K (impl_CosSeries x) := cq (fun h0 => rfl) (fun h0 => rfl)
theorem impl_CosSeries.gives (x : Iv) : GivesV Tryz.prog 154 [cIv.enc x] (cIv.enc (impl_CosSeries x)) :=
  givesT hmix [impl_ring.e, impl_InsideI.e, impl_Whole.e, impl_SqrI.e, impl_series.e, impl_tiny.e, impl_AddI.e] 0 none Tryz.func154 rfl rfl ((by kernel_rfl : run1 Tryz.prog (tab [impl_ring.e, impl_InsideI.e, impl_Whole.e, impl_SqrI.e, impl_series.e, impl_tiny.e, impl_AddI.e]) 0 none noL Tryz.f154 [cIv.enc x] [] = impl_CosSeries.t x fun r => some (cIv.enc r, [])).trans (impl_CosSeries.t_eq x _))
def impl_CosSeries.e : Entry Tryz.prog := entry1 cIv cIv 154 impl_CosSeries impl_CosSeries.gives

/-! ### impl.circleValue -/
def impl_circleValue.t {ρ : Type} (n : Int) (turns : Int) (K : Iv → Option ρ) : Option ρ := bif (!(impl_isAngle n)) then (K impl_ring) else (let t3 := (impl_QuarterOf n); let t6 := (impl_SubI (impl_at n) (impl_TurnI t3)); bif ((andI .i64 (w64 (t3 + turns)) 3) == 0) then (K (impl_inRing (impl_SinSeries t6))) else (bif ((andI .i64 (w64 (t3 + turns)) 3) == 1) then (K (impl_inRing (impl_CosSeries t6))) else (bif ((andI .i64 (w64 (t3 + turns)) 3) == 2) then (K (impl_inRing (impl_NegI (impl_SinSeries t6)))) else (K (impl_inRing (impl_NegI (impl_CosSeries t6)))))))
theorem impl_circleValue.t_eq {ρ : Type} (n : Int) (turns : Int) (K : Iv → Option ρ) : impl_circleValue.t n turns K = K (impl_circleValue n turns) := cq (fun h0 => rfl) (fun h0 => cq (fun h1 => rfl) (fun h1 => cq (fun h2 => rfl) (fun h2 => cq (fun h3 => rfl) (fun h3 => rfl))))
theorem impl_circleValue.gives (n : Int) (turns : Int) : GivesV Tryz.prog 127 [(cInt .i64).enc n, (cInt .i64).enc turns] (cIv.enc (impl_circleValue n turns)) :=
  givesT hmix [impl_isAngle.e, impl_ring.e, impl_QuarterOf.e, impl_at.e, impl_TurnI.e, impl_SubI.e, impl_SinSeries.e, impl_inRing.e, impl_CosSeries.e, impl_NegI.e] 0 none Tryz.func127 rfl rfl ((by kernel_rfl : run1 Tryz.prog (tab [impl_isAngle.e, impl_ring.e, impl_QuarterOf.e, impl_at.e, impl_TurnI.e, impl_SubI.e, impl_SinSeries.e, impl_inRing.e, impl_CosSeries.e, impl_NegI.e]) 0 none noL Tryz.f127 [(cInt .i64).enc n, (cInt .i64).enc turns] [] = impl_circleValue.t n turns fun r => some (cIv.enc r, [])).trans (impl_circleValue.t_eq n turns _))
def impl_circleValue.e : Entry Tryz.prog := entry2 (cInt .i64) (cInt .i64) cIv 127 impl_circleValue impl_circleValue.gives

/-! ### impl.HullI -/
def impl_HullI.t {ρ : Type} (a : Iv) (b : Iv) (K : Iv → Option ρ) : Option ρ := bif (!(impl_areBounded a b)) then (K impl_Whole) else (K (Iv.mk (mnI a.lo b.lo) (mxI a.hi b.hi)))
theorem impl_HullI.t_eq {ρ : Type} (a : Iv) (b : Iv) (K : Iv → Option ρ) : impl_HullI.t a b K = K (impl_HullI a b) := cq (fun h0 => rfl) (fun h0 => rfl)
theorem impl_HullI.gives (a : Iv) (b : Iv) : GivesV Tryz.prog 126 [cIv.enc a, cIv.enc b] (cIv.enc (impl_HullI a b)) :=
  givesT hmix [impl_areBounded.e, impl_Whole.e] 0 none Tryz.func126 rfl rfl ((by kernel_rfl : run1 Tryz.prog (tab [impl_areBounded.e, impl_Whole.e]) 0 none noL Tryz.f126 [cIv.enc a, cIv.enc b] [] = impl_HullI.t a b fun r => some (cIv.enc r, [])).trans (impl_HullI.t_eq a b _))
def impl_HullI.e : Entry Tryz.prog := entry2 cIv cIv cIv 126 impl_HullI impl_HullI.gives

/-! ### impl.OverlapI -/
def impl_OverlapI.t {ρ : Type} (a : Iv) (b : Iv) (K : Bool → Option ρ) : Option ρ := K ((impl_MeetI a b).2)
theorem impl_OverlapI.t_eq {ρ : Type} (a : Iv) (b : Iv) (K : Bool → Option ρ) : impl_OverlapI.t a b K = K (impl_OverlapI a b) := rfl
theorem impl_OverlapI.gives (a : Iv) (b : Iv) : GivesV Tryz.prog 155 [cIv.enc a, cIv.enc b] (cBool.enc (impl_OverlapI a b)) :=
  givesT hmix [impl_MeetI.e] 0 none Tryz.func155 rfl rfl ((by kernel_rfl : run1 Tryz.prog (tab [impl_MeetI.e]) 0 none noL Tryz.f155 [cIv.enc a, cIv.enc b] [] = impl_OverlapI.t a b fun r => some (cBool.enc r, [])).trans (impl_OverlapI.t_eq a b _))
def impl_OverlapI.e : Entry Tryz.prog := entry2 cIv cIv cBool 155 impl_OverlapI impl_OverlapI.gives

/-! ### impl.turnsIn -/
def impl_turnsIn.ls : Option (List Nat) := some [1, 3, 4, 1000000, 3002003]
def impl_turnsIn.env3 (x_lo : Int) (x_hi : Int) (v : Int × List Value) : Env := [(1, .pointer (some ⟨0, 0, none⟩)), (3, .slice (some ⟨1, 0, some 0⟩) 0 0), (4, .int .i64 v.1)]
def impl_turnsIn.heap3 (x_lo : Int) (x_hi : Int) (v : Int × List Value) : LH := [(#[.int .i64 x_lo, .int .i64 x_hi], 26), (lstC v.2 true (.int .i64 0), 2)]
def impl_turnsIn.L3 : LEntry := ⟨3, fun _ tm σ K => match tm, σ with
  | [(1, .pointer (some ⟨0, 0, none⟩)), (3, .slice (some ⟨1, 0, some 0⟩) 0 0), (4, .int .i64 q)], [(⟨[.int .i64 x_lo, .int .i64 x_hi]⟩, 26), (⟨[.tuple ⟨rs⟩, .bool true, .int .i64 0]⟩, 2)] => (match decide (-400 ≤ q ∧ q ≤ 400 ∧ (rs.length : Int) ≤ q + 400) with | true => K (.exit 0) (impl_turnsIn.env3 x_lo x_hi (impl_turnsIn.fin3 x_lo x_hi (q, rs))) (impl_turnsIn.heap3 x_lo x_hi (impl_turnsIn.fin3 x_lo x_hi (q, rs))) | false => none)
  | _, _ => none⟩
def impl_turnsIn.lt3 {ρ : Type} (x_lo : Int) (x_hi : Int) (q : Int) (rs : List Value) (K : Sum (Int × List Value) (Int × List Value) → Option ρ) : Option ρ := bif decide (q ≤ (w64 ((impl_QuarterOf x_hi) + 1))) then (bif (impl_OverlapI (impl_TurnI q) (Iv.mk x_lo x_hi)) then (bif decide ((rs.length + 1) * 8 ≤ 140737488355328) then (K (Sum.inl ((w64 (q + 1)), ((Value.int .i64 q) :: rs)))) else none) else (K (Sum.inl ((w64 (q + 1)), rs)))) else (K (Sum.inr (q, rs)))
theorem impl_turnsIn.lt3_eq {ρ : Type} (x_lo : Int) (x_hi : Int) (q : Int) (rs : List Value) (hpre : -400 ≤ q ∧ q ≤ 400 ∧ (rs.length : Int) ≤ q + 400) (K : Sum (Int × List Value) (Int × List Value) → Option ρ) : impl_turnsIn.lt3 x_lo x_hi q rs K = K (impl_turnsIn.rnd3 x_lo x_hi q rs) := cq (fun h0 => cq (fun h1 => cqT (by exact pd_turns hpre) (fun h2 => rfl)) (fun h1 => rfl)) (fun h0 => rfl)
theorem impl_turnsIn.step3 (x_lo : Int) (x_hi : Int) (q : Int) (rs : List Value) (k : Nat) (R : Type) (K : LX → Env → LH → Option R) : loopN Tryz.prog 0 impl_turnsIn.ls (k + 1) (exec Tryz.prog (tab (P := Tryz.prog) [impl_QuarterOf.e, impl_TurnI.e, impl_OverlapI.e]) 0 26 0 impl_turnsIn.ls (lam [impl_turnsIn.L3]) (cOf Tryz.f128 0)) (impl_turnsIn.env3 x_lo x_hi (q, rs)) (impl_turnsIn.heap3 x_lo x_hi (q, rs)) K = impl_turnsIn.lt3 x_lo x_hi q rs (sumK (fun v => loopN Tryz.prog 0 impl_turnsIn.ls k (exec Tryz.prog (tab (P := Tryz.prog) [impl_QuarterOf.e, impl_TurnI.e, impl_OverlapI.e]) 0 26 0 impl_turnsIn.ls (lam [impl_turnsIn.L3]) (cOf Tryz.f128 0)) (impl_turnsIn.env3 x_lo x_hi v) (impl_turnsIn.heap3 x_lo x_hi v) K) (fun v => K (.exit 0) (impl_turnsIn.env3 x_lo x_hi v) (impl_turnsIn.heap3 x_lo x_hi v))) := by kernel_rfl
theorem impl_turnsIn.dec3 (x_lo : Int) (x_hi : Int) (v : Int × List Value) (hv : -400 ≤ v.1 ∧ v.1 ≤ 400 ∧ (v.2.length : Int) ≤ v.1 + 400) (v' : Int × List Value) (hr : impl_turnsIn.rnd3 x_lo x_hi v.1 v.2 = Sum.inl v') : (-400 ≤ v'.1 ∧ v'.1 ≤ 400 ∧ (v'.2.length : Int) ≤ v'.1 + 400) ∧ (401 - v'.1).toNat < (401 - v.1).toNat := by
  exact dec_turns hv hr
theorem impl_turnsIn.to3 : impl_turnsIn.L3.Ok Tryz.prog (tab (P := Tryz.prog) [impl_QuarterOf.e, impl_TurnI.e, impl_OverlapI.e]) 0 26 0 impl_turnsIn.ls (lam [impl_turnsIn.L3]) (cOf Tryz.f128 0) := by
  intro R tm σ K r h
  simp only [impl_turnsIn.L3] at h
  split at h
  case h_2 => simp at h
  split at h
  case h_2 => simp at h
  rename_i q x_lo x_hi rs _ hc
  exact ⟨_, _, _, h, loop_to (x := 0) (rnd := (fun v : Int × List Value => impl_turnsIn.rnd3 x_lo x_hi v.1 v.2)) (env := fun v : Int × List Value => impl_turnsIn.env3 x_lo x_hi v) (heap := fun v : Int × List Value => impl_turnsIn.heap3 x_lo x_hi v) (Inv := (fun v : Int × List Value => -400 ≤ v.1 ∧ v.1 ≤ 400 ∧ (v.2.length : Int) ≤ v.1 + 400)) (μ := (fun v : Int × List Value => (401 - v.1).toNat)) (fun v hv k R K => (impl_turnsIn.step3 x_lo x_hi v.1 v.2 k R K).trans (impl_turnsIn.lt3_eq x_lo x_hi v.1 v.2 hv (sumK (fun v => loopN Tryz.prog 0 impl_turnsIn.ls k (exec Tryz.prog (tab (P := Tryz.prog) [impl_QuarterOf.e, impl_TurnI.e, impl_OverlapI.e]) 0 26 0 impl_turnsIn.ls (lam [impl_turnsIn.L3]) (cOf Tryz.f128 0)) (impl_turnsIn.env3 x_lo x_hi v) (impl_turnsIn.heap3 x_lo x_hi v) K) (fun v => K (.exit 0) (impl_turnsIn.env3 x_lo x_hi v) (impl_turnsIn.heap3 x_lo x_hi v))))) (fun v hv v' hr => impl_turnsIn.dec3 x_lo x_hi v hv v' hr) 802 (q, rs) (by have := of_decide_eq_true hc; first | exact this | (simp only []; exact this)) (by have := of_decide_eq_true hc; first | omega | (simp only []; omega))⟩
theorem impl_turnsIn.lok : ∀ c, Tryz.f128.body = some c → LamOk Tryz.prog (tab (P := Tryz.prog) [impl_QuarterOf.e, impl_TurnI.e, impl_OverlapI.e]) 0 Tryz.f128.ntmps 0 impl_turnsIn.ls (lam [impl_turnsIn.L3]) (loopsOf c) := by
  intro c hc
  have hb : loopsOf c = [(cOf Tryz.f128 0)] := by
    have h : loopsOf (Tryz.f128.body.getD .skip) = [(cOf Tryz.f128 0)] := by kernel_rfl
    rw [hc] at h
    exact h
  exact lam_ok1 hb impl_turnsIn.to3
def impl_turnsIn.t {ρ : Type} (x : Iv) (K : List Value → Option ρ) : Option ρ := let t1 := (impl_QuarterOf x.lo); bif decide (-400 ≤ (w64 (t1 - 1)) ∧ (w64 (t1 - 1)) ≤ 400 ∧ (([] : List Value).length : Int) ≤ (w64 (t1 - 1)) + 400) then (K ((impl_turnsIn.fin3 x.lo x.hi ((w64 (t1 - 1)), ([] : List Value))).2)) else none
theorem impl_turnsIn.t_eq {ρ : Type} (x : Iv) (K : List Value → Option ρ) : impl_turnsIn.t x K = K (impl_turnsIn x) := cqT (by exact pd_turns0 _) (fun h0 => rfl)
theorem impl_turnsIn.gives (x : Iv) : GivesR Tryz.prog 128 [cIv.enc x] (.int .i64 0) 2 (impl_turnsIn x) :=
  givesRL hmix [impl_QuarterOf.e, impl_TurnI.e, impl_OverlapI.e] 0 impl_turnsIn.ls (lam [impl_turnsIn.L3]) Tryz.func128 rfl rfl impl_turnsIn.lok ((by kernel_rfl : runK Tryz.prog (tab [impl_QuarterOf.e, impl_TurnI.e, impl_OverlapI.e]) 0 impl_turnsIn.ls (lam [impl_turnsIn.L3]) Tryz.f128 [cIv.enc x] 0 [] hdrBlk = impl_turnsIn.t x fun r => some (lstC r true (.int .i64 0), 2)).trans (impl_turnsIn.t_eq x _))
def impl_turnsIn.e : Entry Tryz.prog := entryR1 cIv (.int .i64 0) 2 128 impl_turnsIn impl_turnsIn.gives

/-! ### impl.circleHull -/
def impl_circleHull.ls : Option (List Nat) := some [1, 2, 4, 5, 22, 23, 24]
def impl_circleHull.env5 (rs : List Value) (x_lo : Int) (x_hi : Int) (turns_ : Int) (n : Int) (v : Int × Int × Int) : Env := [(1, .int .i64 turns_), (2, .pointer (some ⟨0, 0, none⟩)), (4, .pointer (some ⟨1, 0, none⟩)), (5, .pointer (some ⟨2, 0, none⟩)), (22, .slice (some ⟨3, 0, some 0⟩) 0 0), (23, .int .i64 n), (24, .int .i64 v.1)]
def impl_circleHull.heap5 (rs : List Value) (x_lo : Int) (x_hi : Int) (turns_ : Int) (n : Int) (v : Int × Int × Int) : LH := [(#[.int .i64 x_lo, .int .i64 x_hi], 26), (#[.int .i64 0, .int .i64 0], 26), (#[.int .i64 v.2.1, .int .i64 v.2.2], 26), (lstC rs true (.int .i64 0), 2)]
def impl_circleHull.L5 : LEntry := ⟨5, fun _ tm σ K => match tm, σ with
  | [(1, .int .i64 turns_), (2, .pointer (some ⟨0, 0, none⟩)), (4, .pointer (some ⟨1, 0, none⟩)), (5, .pointer (some ⟨2, 0, none⟩)), (22, .slice (some ⟨3, 0, some 0⟩) 0 0), (23, .int .i64 n), (24, .int .i64 i)], [(⟨[.int .i64 x_lo, .int .i64 x_hi]⟩, 26), (⟨[.int .i64 0, .int .i64 0]⟩, 26), (⟨[.int .i64 out_lo, .int .i64 out_hi]⟩, 26), (⟨[.tuple ⟨rs⟩, .bool true, .int .i64 0]⟩, 2)] => (match decide (n = (rs.length : Int) ∧ 0 ≤ i ∧ i ≤ n ∧ n ≤ 1000) with | true => K (.exit 0) (impl_circleHull.env5 rs x_lo x_hi turns_ n (impl_circleHull.fin5 rs x_lo x_hi turns_ n (i, out_lo, out_hi))) (impl_circleHull.heap5 rs x_lo x_hi turns_ n (impl_circleHull.fin5 rs x_lo x_hi turns_ n (i, out_lo, out_hi))) | false => none)
  | _, _ => none⟩
def impl_circleHull.lt5 {ρ : Type} (rs : List Value) (x_lo : Int) (x_hi : Int) (turns_ : Int) (n : Int) (i : Int) (out_lo : Int) (out_hi : Int) (K : Sum (Int × Int × Int) (Int × Int × Int) → Option ρ) : Option ρ := bif decide (i < n) then (bif decide (0 ≤ i ∧ i < (rs.length : Int)) then (bif decide ((Int.toNat i) < rs.length) then (bif ((andI .i64 (w64 ((atI rs true i) + turns_)) 3) == 1) then (let t8 := (impl_HullI (Iv.mk out_lo out_hi) (impl_Integer 1)); K (Sum.inl ((w64 (i + 1)), t8.lo, t8.hi))) else (bif ((andI .i64 (w64 ((atI rs true i) + turns_)) 3) == 3) then (let t10 := (impl_HullI (Iv.mk out_lo out_hi) (impl_Integer (-1))); K (Sum.inl ((w64 (i + 1)), t10.lo, t10.hi))) else (K (Sum.inl ((w64 (i + 1)), out_lo, out_hi))))) else none) else none) else (K (Sum.inr (i, out_lo, out_hi)))
theorem impl_circleHull.lt5_eq {ρ : Type} (rs : List Value) (x_lo : Int) (x_hi : Int) (turns_ : Int) (n : Int) (i : Int) (out_lo : Int) (out_hi : Int) (hpre : n = (rs.length : Int) ∧ 0 ≤ i ∧ i ≤ n ∧ n ≤ 1000) (K : Sum (Int × Int × Int) (Int × Int × Int) → Option ρ) : impl_circleHull.lt5 rs x_lo x_hi turns_ n i out_lo out_hi K = K (impl_circleHull.rnd5 rs x_lo x_hi turns_ n i out_lo out_hi) := cq (fun h0 => cqT (by first | exact u64_neg _ | (simp only [decide_eq_true_eq, decide_eq_false_iff_not] at *; omega) | (simp only [Bool.not_eq_eq_eq_not, Bool.not_false, inside_iff, l00In_iff, decide_eq_true_eq, decide_eq_false_iff_not, w64_def, u64_def] at *; omega)) (fun h1 => cqT (by first | exact u64_neg _ | (simp only [decide_eq_true_eq, decide_eq_false_iff_not] at *; omega) | (simp only [Bool.not_eq_eq_eq_not, Bool.not_false, inside_iff, l00In_iff, decide_eq_true_eq, decide_eq_false_iff_not, w64_def, u64_def] at *; omega)) (fun h2 => cq (fun h3 => rfl) (fun h3 => cq (fun h4 => rfl) (fun h4 => rfl))))) (fun h0 => rfl)
theorem impl_circleHull.step5 (rs : List Value) (x_lo : Int) (x_hi : Int) (turns_ : Int) (n : Int) (i : Int) (out_lo : Int) (out_hi : Int) (k : Nat) (R : Type) (K : LX → Env → LH → Option R) : loopN Tryz.prog 0 impl_circleHull.ls (k + 1) (exec Tryz.prog (tab (P := Tryz.prog) [impl_areAngles.e, impl_ring.e, impl_circleValue.e, impl_HullI.e, impl_turnsIn.e, impl_Integer.e]) 0 44 0 impl_circleHull.ls (lam [impl_circleHull.L5]) (cOf Tryz.f97 0)) (impl_circleHull.env5 rs x_lo x_hi turns_ n (i, out_lo, out_hi)) (impl_circleHull.heap5 rs x_lo x_hi turns_ n (i, out_lo, out_hi)) K = impl_circleHull.lt5 rs x_lo x_hi turns_ n i out_lo out_hi (sumK (fun v => loopN Tryz.prog 0 impl_circleHull.ls k (exec Tryz.prog (tab (P := Tryz.prog) [impl_areAngles.e, impl_ring.e, impl_circleValue.e, impl_HullI.e, impl_turnsIn.e, impl_Integer.e]) 0 44 0 impl_circleHull.ls (lam [impl_circleHull.L5]) (cOf Tryz.f97 0)) (impl_circleHull.env5 rs x_lo x_hi turns_ n v) (impl_circleHull.heap5 rs x_lo x_hi turns_ n v) K) (fun v => K (.exit 0) (impl_circleHull.env5 rs x_lo x_hi turns_ n v) (impl_circleHull.heap5 rs x_lo x_hi turns_ n v))) := by kernel_rfl
theorem impl_circleHull.dec5 (rs : List Value) (x_lo : Int) (x_hi : Int) (turns_ : Int) (n : Int) (v : Int × Int × Int) (hv : n = (rs.length : Int) ∧ 0 ≤ v.1 ∧ v.1 ≤ n ∧ n ≤ 1000) (v' : Int × Int × Int) (hr : impl_circleHull.rnd5 rs x_lo x_hi turns_ n v.1 v.2.1 v.2.2 = Sum.inl v') : (n = (rs.length : Int) ∧ 0 ≤ v'.1 ∧ v'.1 ≤ n ∧ n ≤ 1000) ∧ (n - v'.1).toNat < (n - v.1).toNat := by
  exact dec_hull hv hr
theorem impl_circleHull.to5 : impl_circleHull.L5.Ok Tryz.prog (tab (P := Tryz.prog) [impl_areAngles.e, impl_ring.e, impl_circleValue.e, impl_HullI.e, impl_turnsIn.e, impl_Integer.e]) 0 44 0 impl_circleHull.ls (lam [impl_circleHull.L5]) (cOf Tryz.f97 0) := by
  intro R tm σ K r h
  simp only [impl_circleHull.L5] at h
  split at h
  case h_2 => simp at h
  split at h
  case h_2 => simp at h
  rename_i turns_ n i x_lo x_hi out_lo out_hi rs _ hc
  exact ⟨_, _, _, h, loop_to (x := 0) (rnd := (fun v : Int × Int × Int => impl_circleHull.rnd5 rs x_lo x_hi turns_ n v.1 v.2.1 v.2.2)) (env := fun v : Int × Int × Int => impl_circleHull.env5 rs x_lo x_hi turns_ n v) (heap := fun v : Int × Int × Int => impl_circleHull.heap5 rs x_lo x_hi turns_ n v) (Inv := (fun v : Int × Int × Int => n = (rs.length : Int) ∧ 0 ≤ v.1 ∧ v.1 ≤ n ∧ n ≤ 1000)) (μ := (fun v : Int × Int × Int => (n - v.1).toNat)) (fun v hv k R K => (impl_circleHull.step5 rs x_lo x_hi turns_ n v.1 v.2.1 v.2.2 k R K).trans (impl_circleHull.lt5_eq rs x_lo x_hi turns_ n v.1 v.2.1 v.2.2 hv (sumK (fun v => loopN Tryz.prog 0 impl_circleHull.ls k (exec Tryz.prog (tab (P := Tryz.prog) [impl_areAngles.e, impl_ring.e, impl_circleValue.e, impl_HullI.e, impl_turnsIn.e, impl_Integer.e]) 0 44 0 impl_circleHull.ls (lam [impl_circleHull.L5]) (cOf Tryz.f97 0)) (impl_circleHull.env5 rs x_lo x_hi turns_ n v) (impl_circleHull.heap5 rs x_lo x_hi turns_ n v) K) (fun v => K (.exit 0) (impl_circleHull.env5 rs x_lo x_hi turns_ n v) (impl_circleHull.heap5 rs x_lo x_hi turns_ n v))))) (fun v hv v' hr => impl_circleHull.dec5 rs x_lo x_hi turns_ n v hv v' hr) 1001 (i, out_lo, out_hi) (by have := of_decide_eq_true hc; first | exact this | (simp only []; exact this)) (by have := of_decide_eq_true hc; first | omega | (simp only []; omega))⟩
theorem impl_circleHull.lok : ∀ c, Tryz.f97.body = some c → LamOk Tryz.prog (tab (P := Tryz.prog) [impl_areAngles.e, impl_ring.e, impl_circleValue.e, impl_HullI.e, impl_turnsIn.e, impl_Integer.e]) 0 Tryz.f97.ntmps 0 impl_circleHull.ls (lam [impl_circleHull.L5]) (loopsOf c) := by
  intro c hc
  have hb : loopsOf c = [(cOf Tryz.f97 0)] := by
    have h : loopsOf (Tryz.f97.body.getD .skip) = [(cOf Tryz.f97 0)] := by kernel_rfl
    rw [hc] at h
    exact h
  exact lam_ok1 hb impl_circleHull.to5
def impl_circleHull.t {ρ : Type} (x : Iv) (turns : Int) (K : Iv → Option ρ) : Option ρ := bif (!(impl_areAngles x)) then (K impl_ring) else (let t5 := (impl_HullI (impl_circleValue x.lo turns) (impl_circleValue x.hi turns)); let t6 := (impl_turnsIn x); bif decide ((t6.length : Int) = (t6.length : Int) ∧ 0 ≤ (0 : Int) ∧ (0 : Int) ≤ (t6.length : Int) ∧ (t6.length : Int) ≤ 1000) then (let t7 := (impl_circleHull.fin5 t6 x.lo x.hi turns ((t6.length : Int)) (0, t5.lo, t5.hi)); K (Iv.mk t7.2.1 t7.2.2)) else none)
theorem impl_circleHull.t_eq {ρ : Type} (x : Iv) (turns : Int) (K : Iv → Option ρ) : impl_circleHull.t x turns K = K (impl_circleHull x turns) := cq (fun h0 => rfl) (fun h0 => cqT (by exact pd_hull0 _) (fun h1 => rfl))
theorem impl_circleHull.gives (x : Iv) (turns : Int) : GivesV Tryz.prog 97 [cIv.enc x, (cInt .i64).enc turns] (cIv.enc (impl_circleHull x turns)) :=
  givesL hmix [impl_areAngles.e, impl_ring.e, impl_circleValue.e, impl_HullI.e, impl_turnsIn.e, impl_Integer.e] 0 impl_circleHull.ls (lam [impl_circleHull.L5]) Tryz.func97 rfl rfl impl_circleHull.lok ((by kernel_rfl : run1 Tryz.prog (tab [impl_areAngles.e, impl_ring.e, impl_circleValue.e, impl_HullI.e, impl_turnsIn.e, impl_Integer.e]) 0 impl_circleHull.ls (lam [impl_circleHull.L5]) Tryz.f97 [cIv.enc x, (cInt .i64).enc turns] [] = impl_circleHull.t x turns fun r => some (cIv.enc r, [])).trans (impl_circleHull.t_eq x turns _))
def impl_circleHull.e : Entry Tryz.prog := entry2 cIv (cInt .i64) cIv 97 impl_circleHull impl_circleHull.gives

/-! ### impl.SinI -/
def impl_SinI.t {ρ : Type} (x : Iv) (K : Iv → Option ρ) : Option ρ := K (impl_circleHull x 0)
theorem impl_SinI.t_eq {ρ : Type} (x : Iv) (K : Iv → Option ρ) : impl_SinI.t x K = K (impl_SinI x) := rfl
theorem impl_SinI.gives (x : Iv) : GivesV Tryz.prog 50 [cIv.enc x] (cIv.enc (impl_SinI x)) :=
  givesT hmix [impl_circleHull.e] 0 none Tryz.func50 rfl rfl ((by kernel_rfl : run1 Tryz.prog (tab [impl_circleHull.e]) 0 none noL Tryz.f50 [cIv.enc x] [] = impl_SinI.t x fun r => some (cIv.enc r, [])).trans (impl_SinI.t_eq x _))
def impl_SinI.e : Entry Tryz.prog := entry1 cIv cIv 50 impl_SinI impl_SinI.gives

/-! ### impl.symmetric -/
def impl_symmetric.t {ρ : Type} (x : Iv) (K : Iv → Option ρ) : Option ρ := bif (impl_IsWhole x) then (K impl_Whole) else (K (impl_bounded (w64 (0 - x.hi)) x.hi true))
theorem impl_symmetric.t_eq {ρ : Type} (x : Iv) (K : Iv → Option ρ) : impl_symmetric.t x K = K (impl_symmetric x) := cq (fun h0 => rfl) (fun h0 => rfl)
theorem impl_symmetric.gives (x : Iv) : GivesV Tryz.prog 81 [cIv.enc x] (cIv.enc (impl_symmetric x)) :=
  givesT hmix [impl_IsWhole.e, impl_Whole.e, impl_bounded.e] 0 none Tryz.func81 rfl rfl ((by kernel_rfl : run1 Tryz.prog (tab [impl_IsWhole.e, impl_Whole.e, impl_bounded.e]) 0 none noL Tryz.f81 [cIv.enc x] [] = impl_symmetric.t x fun r => some (cIv.enc r, [])).trans (impl_symmetric.t_eq x _))
def impl_symmetric.e : Entry Tryz.prog := entry1 cIv cIv 81 impl_symmetric impl_symmetric.gives

/-! ### impl.MajorI -/
def impl_MajorI.t {ρ : Type} (e_0 : El) (K : Iv → Option ρ) : Option ρ := bif (!(impl_ValidEllipsoid e_0)) then (K impl_Whole) else (K (impl_Quotient e_0.a 1000))
theorem impl_MajorI.t_eq {ρ : Type} (e_0 : El) (K : Iv → Option ρ) : impl_MajorI.t e_0 K = K (impl_MajorI e_0) := cq (fun h0 => rfl) (fun h0 => rfl)
theorem impl_MajorI.gives (e_0 : El) : GivesV Tryz.prog 47 [cEl.enc e_0] (cIv.enc (impl_MajorI e_0)) :=
  givesT hmix [(inl hmix [impl_ValidEllipsoid.e, impl_Whole.e, (inl hmix [impl_Quotient.e] 1 94 Tryz.f94 Tryz.func94 rfl)] 1 93 Tryz.f93 Tryz.func93 rfl)] 0 none Tryz.func47 rfl rfl ((by kernel_rfl : run1 Tryz.prog (tab [(inl hmix [impl_ValidEllipsoid.e, impl_Whole.e, (inl hmix [impl_Quotient.e] 1 94 Tryz.f94 Tryz.func94 rfl)] 1 93 Tryz.f93 Tryz.func93 rfl)]) 0 none noL Tryz.f47 [cEl.enc e_0] [] = impl_MajorI.t e_0 fun r => some (cIv.enc r, [])).trans (impl_MajorI.t_eq e_0 _))
def impl_MajorI.e : Entry Tryz.prog := entry1 cEl cIv 47 impl_MajorI impl_MajorI.gives

/-! ### impl.arcAt -/
def impl_arcAt.t {ρ : Type} (d : El) (i : Int) (K : Iv → Option ρ) : Option ρ := let t1 := (impl_ThirdI d); let t2 := (impl_at i); let t3 := (impl_SqrI t1); K (impl_MulI (impl_DivI (impl_MajorI d) (impl_AddI (impl_Integer 1) t1)) (impl_AddI (impl_AddI (impl_SubI (impl_AddI (impl_SubI (impl_MulI (impl_AddI (impl_AddI (impl_Integer 1) (impl_over t3 4)) (impl_over (impl_MulI t3 t3) 64)) t2) (impl_MulI (impl_MulI (impl_MulI (impl_Quotient 3 2) t1) (impl_oneLess (impl_over t3 8))) (impl_SinI (impl_times 2 t2)))) (impl_MulI (impl_MulI (impl_MulI (impl_Quotient 15 16) t3) (impl_oneLess (impl_over t3 4))) (impl_SinI (impl_times 4 t2)))) (impl_MulI (impl_MulI (impl_MulI (impl_Quotient 35 48) t3) t1) (impl_SinI (impl_times 6 t2)))) (impl_MulI (impl_MulI (impl_MulI (impl_Quotient 315 512) t3) t3) (impl_SinI (impl_times 8 t2)))) (impl_symmetric (impl_MulI (impl_MulI (impl_times 2 t3) t3) t1))))
theorem impl_arcAt.t_eq {ρ : Type} (d : El) (i : Int) (K : Iv → Option ρ) : impl_arcAt.t d i K = K (impl_arcAt d i) := rfl
theorem impl_arcAt.gives (d : El) (i : Int) : GivesV Tryz.prog 41 [cEl.enc d, (cInt .i64).enc i] (cIv.enc (impl_arcAt d i)) :=
  givesT hmix [impl_ThirdI.e, impl_at.e, impl_SqrI.e, impl_Integer.e, impl_over.e, impl_AddI.e, impl_MulI.e, impl_Quotient.e, impl_oneLess.e, impl_times.e, impl_SinI.e, impl_SubI.e, impl_symmetric.e, impl_MajorI.e, impl_DivI.e] 0 none Tryz.func41 rfl rfl ((by kernel_rfl : run1 Tryz.prog (tab [impl_ThirdI.e, impl_at.e, impl_SqrI.e, impl_Integer.e, impl_over.e, impl_AddI.e, impl_MulI.e, impl_Quotient.e, impl_oneLess.e, impl_times.e, impl_SinI.e, impl_SubI.e, impl_symmetric.e, impl_MajorI.e, impl_DivI.e]) 0 none noL Tryz.f41 [cEl.enc d, (cInt .i64).enc i] [] = impl_arcAt.t d i fun r => some (cIv.enc r, [])).trans (impl_arcAt.t_eq d i _))
def impl_arcAt.e : Entry Tryz.prog := entry2 cEl (cInt .i64) cIv 41 impl_arcAt impl_arcAt.gives

/-! ### impl.ArcI$1 -/
def impl_ArcI_1.t {ρ : Type} (n : Int) (d_ : El) (K : Iv → Option ρ) : Option ρ := K (impl_arcAt d_ n)
theorem impl_ArcI_1.t_eq {ρ : Type} (n : Int) (d_ : El) (K : Iv → Option ρ) : impl_ArcI_1.t n d_ K = K (impl_ArcI_1 n d_) := rfl
theorem impl_ArcI_1.gives (n : Int) (d_ : El) : GivesA Tryz.prog 40 [(aV (cInt .i64)).enc n, (aP cEl 37 El.cells El.cells_eq El.cells_n El.cells_p).enc d_] (cIv.enc (impl_ArcI_1 n d_)) :=
  givesA_L hmix [impl_arcAt.e] 0 none noL Tryz.func40 rfl (fun _ _ => noL_ok) ((by kernel_rfl : run1 Tryz.prog (tab [impl_arcAt.e]) 0 none noL Tryz.f40 (argVals 0 [(aV (cInt .i64)).enc n, (aP cEl 37 El.cells El.cells_eq El.cells_n El.cells_p).enc d_]) (argBlocks [(aV (cInt .i64)).enc n, (aP cEl 37 El.cells El.cells_eq El.cells_n El.cells_p).enc d_]) = impl_ArcI_1.t n d_ fun r => some (cIv.enc r, argBlocks [(aV (cInt .i64)).enc n, (aP cEl 37 El.cells El.cells_eq El.cells_n El.cells_p).enc d_])).trans (impl_ArcI_1.t_eq n d_ _))
def impl_ArcI_1.e : Entry Tryz.prog := entryP2 (cInt .i64) cEl 37 El.cells El.cells_eq El.cells_n El.cells_p cIv 40 impl_ArcI_1 impl_ArcI_1.gives

/-! ### impl.ArcI -/
def impl_ArcI.t {ρ : Type} (e_0 : El) (lat : Iv) (K : Iv → Option ρ) : Option ρ := bif (!(impl_ValidEllipsoid e_0)) then (K impl_Whole) else (bif (!(impl_within lat.lo (-8589934592) 8589934592)) then (K impl_Whole) else (bif (!(impl_within lat.hi (-8589934592) 8589934592)) then (K impl_Whole) else (bif (impl_IsWhole lat) then (K impl_Whole) else (let t9 := (impl_ArcI_1 lat.lo e_0); let t10 := (impl_ArcI_1 lat.hi e_0); bif (!(impl_areBounded t9 t10)) then (K impl_Whole) else (K (impl_bounded t9.lo t10.hi true))))))
theorem impl_ArcI.t_eq {ρ : Type} (e_0 : El) (lat : Iv) (K : Iv → Option ρ) : impl_ArcI.t e_0 lat K = K (impl_ArcI e_0 lat) := cq (fun h0 => rfl) (fun h0 => cq (fun h1 => rfl) (fun h1 => cq (fun h2 => rfl) (fun h2 => cq (fun h3 => rfl) (fun h3 => cq (fun h4 => rfl) (fun h4 => rfl)))))
theorem impl_ArcI.gives (e_0 : El) (lat : Iv) : GivesV Tryz.prog 21 [cEl.enc e_0, cIv.enc lat] (cIv.enc (impl_ArcI e_0 lat)) :=
  givesT hmix [impl_ValidEllipsoid.e, impl_Whole.e, impl_within.e, (inl hmix [impl_IsWhole.e, impl_Whole.e, impl_ArcI_1.e, impl_areBounded.e, impl_bounded.e] 1 39 Tryz.f39 Tryz.func39 rfl)] 0 none Tryz.func21 rfl rfl ((by kernel_rfl : run1 Tryz.prog (tab [impl_ValidEllipsoid.e, impl_Whole.e, impl_within.e, (inl hmix [impl_IsWhole.e, impl_Whole.e, impl_ArcI_1.e, impl_areBounded.e, impl_bounded.e] 1 39 Tryz.f39 Tryz.func39 rfl)]) 0 none noL Tryz.f21 [cEl.enc e_0, cIv.enc lat] [] = impl_ArcI.t e_0 lat fun r => some (cIv.enc r, [])).trans (impl_ArcI.t_eq e_0 lat _))
def impl_ArcI.e : Entry Tryz.prog := entry2 cEl cIv cIv 21 impl_ArcI impl_ArcI.gives

/-! ### laws.eqInterval -/
def laws_eqInterval.t {ρ : Type} (a : Iv) (b : Iv) (K : Bool → Option ρ) : Option ρ := bif (a.lo != b.lo) then (K false) else (bif (a.hi != b.hi) then (K false) else (K true))
theorem laws_eqInterval.t_eq {ρ : Type} (a : Iv) (b : Iv) (K : Bool → Option ρ) : laws_eqInterval.t a b K = K (laws_eqInterval a b) := cq (fun h0 => rfl) (fun h0 => cq (fun h1 => rfl) (fun h1 => rfl))
theorem laws_eqInterval.gives (a : Iv) (b : Iv) : GivesV Tryz.prog 22 [cIv.enc a, cIv.enc b] (cBool.enc (laws_eqInterval a b)) :=
  givesT hmix [] 0 none Tryz.func22 rfl rfl ((by kernel_rfl : run1 Tryz.prog (tab []) 0 none noL Tryz.f22 [cIv.enc a, cIv.enc b] [] = laws_eqInterval.t a b fun r => some (cBool.enc r, [])).trans (laws_eqInterval.t_eq a b _))
def laws_eqInterval.e : Entry Tryz.prog := entry2 cIv cIv cBool 22 laws_eqInterval laws_eqInterval.gives

/-! ### laws.FnExactArcI -/
def laws_FnExactArcI.t {ρ : Type} (aE : El) (aLat : Iv) (K : Bool → Option ρ) : Option ρ := bif (!(laws_eqInterval (impl_ArcI (laws_toEllipsoid aE) (laws_toInterval aLat)) (spec_ArcI (laws_toEllipsoid aE) (laws_toInterval aLat)))) then (K false) else (K true)
theorem laws_FnExactArcI.t_eq {ρ : Type} (aE : El) (aLat : Iv) (K : Bool → Option ρ) : laws_FnExactArcI.t aE aLat K = K (laws_FnExactArcI aE aLat) := cq (fun h0 => rfl) (fun h0 => rfl)
theorem laws_FnExactArcI.gives (aE : El) (aLat : Iv) : GivesV Tryz.prog 6 [cEl.enc aE, cIv.enc aLat] (cBool.enc (laws_FnExactArcI aE aLat)) :=
  givesT hmix [laws_toEllipsoid.e, laws_toInterval.e, spec_ArcI.e, impl_ArcI.e, laws_eqInterval.e] 0 none Tryz.func6 rfl rfl ((by kernel_rfl : run1 Tryz.prog (tab [laws_toEllipsoid.e, laws_toInterval.e, spec_ArcI.e, impl_ArcI.e, laws_eqInterval.e]) 0 none noL Tryz.f6 [cEl.enc aE, cIv.enc aLat] [] = laws_FnExactArcI.t aE aLat fun r => some (cBool.enc r, [])).trans (laws_FnExactArcI.t_eq aE aLat _))
def laws_FnExactArcI.e : Entry Tryz.prog := entry2 cEl cIv cBool 6 laws_FnExactArcI laws_FnExactArcI.gives

end Go.Proofs.YtomphoojkemcpaaGreat
