/- The machine walks the functions that FnExactMiddlePoint reaches as the plain functions say. -/
import Derived.Test.YtnlijdpmfdmfhaaProg
import Derived.Test.YtnlijdpmfdmfhaaP12
import Derived.Laws.Externs
import Derived.Test.YtnlijdpmfdmfhaaLen64
set_option linter.unusedVariables false
set_option linter.unusedSimpArgs false
set_option maxRecDepth 100000
namespace Go.Proofs.Ytnlijdpmfdmfhaa
open Go Go.RX Go.G880 Go.Proofs
theorem hmix : Try.prog.follows .mixedOrders = true := by kernel_rfl
/-! ### laws.toInterval -/
def laws_toInterval.t {ρ : Type} (a : Iv) (K : Iv → Option ρ) : Option ρ := K a
theorem laws_toInterval.t_eq {ρ : Type} (a : Iv) (K : Iv → Option ρ) : laws_toInterval.t a K = K (laws_toInterval a) := rfl
theorem laws_toInterval.gives (a : Iv) : GivesV Try.prog 26 [cIv.enc a] (cIv.enc (laws_toInterval a)) :=
  givesT hmix [] 0 none Try.func26 rfl rfl ((by kernel_rfl : run1 Try.prog (tab []) 0 none noL Try.f26 [cIv.enc a] [] = laws_toInterval.t a fun r => some (cIv.enc r, [])).trans (laws_toInterval.t_eq a _))
def laws_toInterval.e : Entry Try.prog := entry1 cIv cIv 26 laws_toInterval laws_toInterval.gives

/-! ### spec.l04Ok -/
def spec_l04Ok.t {ρ : Type} (a : Iv) (K : Bool → Option ρ) : Option ρ := bif decide ((-1152921504606846976) < a.lo) then (bif decide (a.lo ≤ a.hi) then (K (decide (a.hi < 1152921504606846976))) else (K false)) else (K false)
theorem spec_l04Ok.t_eq {ρ : Type} (a : Iv) (K : Bool → Option ρ) : spec_l04Ok.t a K = K (spec_l04Ok a) := cq (fun h0 => cq (fun h1 => rfl) (fun h1 => rfl)) (fun h0 => rfl)
theorem spec_l04Ok.gives (a : Iv) : GivesV Try.prog 74 [cIv.enc a] (cBool.enc (spec_l04Ok a)) :=
  givesT hmix [] 0 none Try.func74 rfl rfl ((by kernel_rfl : run1 Try.prog (tab []) 0 none noL Try.f74 [cIv.enc a] [] = spec_l04Ok.t a fun r => some (cBool.enc r, [])).trans (spec_l04Ok.t_eq a _))
def spec_l04Ok.e : Entry Try.prog := entry1 cIv cBool 74 spec_l04Ok spec_l04Ok.gives

/-! ### spec.IsWhole -/
def spec_IsWhole.t {ρ : Type} (i : Iv) (K : Bool → Option ρ) : Option ρ := K (!(spec_l04Ok i))
theorem spec_IsWhole.t_eq {ρ : Type} (i : Iv) (K : Bool → Option ρ) : spec_IsWhole.t i K = K (spec_IsWhole i) := rfl
theorem spec_IsWhole.gives (i : Iv) : GivesV Try.prog 123 [cIv.enc i] (cBool.enc (spec_IsWhole i)) :=
  givesT hmix [spec_l04Ok.e] 0 none Try.func123 rfl rfl ((by kernel_rfl : run1 Try.prog (tab [spec_l04Ok.e]) 0 none noL Try.f123 [cIv.enc i] [] = spec_IsWhole.t i fun r => some (cBool.enc r, [])).trans (spec_IsWhole.t_eq i _))
def spec_IsWhole.e : Entry Try.prog := entry1 cIv cBool 123 spec_IsWhole spec_IsWhole.gives

/-! ### spec.l02Size -/
def spec_l02Size.t {ρ : Type} (n : Int) (K : Int → Option ρ) : Option ρ := bif decide (n < 0) then (K (u64 (0 - (u64 n)))) else (K (u64 n))
theorem spec_l02Size.t_eq {ρ : Type} (n : Int) (K : Int → Option ρ) : spec_l02Size.t n K = K (spec_l02Size n) := cq (fun h0 => rfl) (fun h0 => rfl)
theorem spec_l02Size.gives (n : Int) : GivesV Try.prog 164 [(cInt .i64).enc n] ((cInt .u64).enc (spec_l02Size n)) :=
  givesT hmix [] 0 none Try.func164 rfl rfl ((by kernel_rfl : run1 Try.prog (tab []) 0 none noL Try.f164 [(cInt .i64).enc n] [] = spec_l02Size.t n fun r => some ((cInt .u64).enc r, [])).trans (spec_l02Size.t_eq n _))
def spec_l02Size.e : Entry Try.prog := entry1 (cInt .i64) (cInt .u64) 164 spec_l02Size spec_l02Size.gives

/-! ### spec.l02Times -/
def spec_l02Times.t {ρ : Type} (a : Int) (b : Int) (K : (Int × Int) → Option ρ) : Option ρ := let x2 := (u64 ((u64 ((Int.fdiv a 4294967296) * (andI .u64 b 4294967295))) + (Int.fdiv (u64 ((andI .u64 a 4294967295) * (andI .u64 b 4294967295))) 4294967296))); K ((u64 ((u64 ((u64 ((Int.fdiv a 4294967296) * (Int.fdiv b 4294967296))) + (Int.fdiv x2 4294967296))) + (Int.fdiv (u64 ((u64 ((andI .u64 a 4294967295) * (Int.fdiv b 4294967296))) + (andI .u64 x2 4294967295))) 4294967296))), (u64 (a * b)))
theorem spec_l02Times.t_eq {ρ : Type} (a : Int) (b : Int) (K : (Int × Int) → Option ρ) : spec_l02Times.t a b K = K (spec_l02Times a b) := rfl
theorem spec_l02Times.gives (a : Int) (b : Int) : GivesV Try.prog 163 [(cInt .u64).enc a, (cInt .u64).enc b] ((cT2 (cInt .u64) (cInt .u64)).enc (spec_l02Times a b)) :=
  givesT hmix [] 0 none Try.func163 rfl rfl ((by kernel_rfl : run1 Try.prog (tab []) 0 none noL Try.f163 [(cInt .u64).enc a, (cInt .u64).enc b] [] = spec_l02Times.t a b fun r => some ((cT2 (cInt .u64) (cInt .u64)).enc r, [])).trans (spec_l02Times.t_eq a b _))
def spec_l02Times.e : Entry Try.prog := entry2 (cInt .u64) (cInt .u64) (cT2 (cInt .u64) (cInt .u64)) 163 spec_l02Times spec_l02Times.gives

/-! ### spec.l02Minus -/
def spec_l02Minus.t {ρ : Type} (w : Wd) (K : Wd → Option ρ) : Option ρ := bif (w.lo == 0) then (K (Wd.mk (w64 (0 - w.hi)) (u64 (0 - w.lo)))) else (K (Wd.mk (xorI .i64 (-1) w.hi) (u64 (0 - w.lo))))
theorem spec_l02Minus.t_eq {ρ : Type} (w : Wd) (K : Wd → Option ρ) : spec_l02Minus.t w K = K (spec_l02Minus w) := cq (fun h0 => rfl) (fun h0 => rfl)
theorem spec_l02Minus.gives (w : Wd) : GivesV Try.prog 160 [cWd.enc w] (cWd.enc (spec_l02Minus w)) :=
  givesT hmix [] 0 none Try.func160 rfl rfl ((by kernel_rfl : run1 Try.prog (tab []) 0 none noL Try.f160 [cWd.enc w] [] = spec_l02Minus.t w fun r => some (cWd.enc r, [])).trans (spec_l02Minus.t_eq w _))
def spec_l02Minus.e : Entry Try.prog := entry1 cWd cWd 160 spec_l02Minus spec_l02Minus.gives

/-! ### spec.l02Mul -/
def spec_l02Mul.t {ρ : Type} (a : Int) (b : Int) (K : Wd → Option ρ) : Option ρ := let t3 := (spec_l02Times (spec_l02Size a) (spec_l02Size b)); bif (!(decide (a < 0) == decide (b < 0))) then (K (spec_l02Minus (Wd.mk (w64 t3.1) t3.2))) else (K (Wd.mk (w64 t3.1) t3.2))
theorem spec_l02Mul.t_eq {ρ : Type} (a : Int) (b : Int) (K : Wd → Option ρ) : spec_l02Mul.t a b K = K (spec_l02Mul a b) := cq (fun h0 => rfl) (fun h0 => rfl)
theorem spec_l02Mul.gives (a : Int) (b : Int) : GivesV Try.prog 151 [(cInt .i64).enc a, (cInt .i64).enc b] (cWd.enc (spec_l02Mul a b)) :=
  givesT hmix [spec_l02Size.e, spec_l02Times.e, spec_l02Minus.e] 0 none Try.func151 rfl rfl ((by kernel_rfl : run1 Try.prog (tab [spec_l02Size.e, spec_l02Times.e, spec_l02Minus.e]) 0 none noL Try.f151 [(cInt .i64).enc a, (cInt .i64).enc b] [] = spec_l02Mul.t a b fun r => some (cWd.enc r, [])).trans (spec_l02Mul.t_eq a b _))
def spec_l02Mul.e : Entry Try.prog := entry2 (cInt .i64) (cInt .i64) cWd 151 spec_l02Mul spec_l02Mul.gives

/-! ### spec.l02Divide -/
def spec_l02Divide.ls : Option (List Nat) := some [1, 2, 9, 10, 11, 12]
def spec_l02Divide.env5 (lo_1 : Int) (d : Int) (v : Int × Int × Int × Int) : Env := [(1, .int .u64 lo_1), (2, .int .u64 d), (9, .int .u64 v.1), (10, .int .u64 v.2.1), (11, .int .u64 v.2.2.1), (12, .int .i64 v.2.2.2)]
def spec_l02Divide.heap5 (lo_1 : Int) (d : Int) (v : Int × Int × Int × Int) : LH := []
def spec_l02Divide.L5 : LEntry := ⟨5, fun _ tm σ K => match tm, σ with
  | [(1, .int .u64 lo_1), (2, .int .u64 d), (9, .int .u64 qhi), (10, .int .u64 rest), (11, .int .u64 q), (12, .int .i64 i)], [] => (match decide (i = 63) with | true => K (.exit 0) (spec_l02Divide.env5 lo_1 d (spec_l02Divide.fin5 lo_1 d (qhi, rest, q, i))) (spec_l02Divide.heap5 lo_1 d (spec_l02Divide.fin5 lo_1 d (qhi, rest, q, i))) | false => none)
  | _, _ => none⟩
def spec_l02Divide.lt5 {ρ : Type} (lo_1 : Int) (d : Int) (qhi : Int) (rest : Int) (q : Int) (i : Int) (K : Sum (Int × Int × Int × Int) (Int × Int × Int × Int) → Option ρ) : Option ρ := bif decide (i ≥ 0) then (bif decide ((u64 i) < 0) then none else (let x1 := (andI .u64 (Int.fdiv lo_1 (2 ^ (min (Int.toNat (u64 i)) 64))) 1); bif ((Int.fdiv rest 9223372036854775808) == 1) then (K (Sum.inl (qhi, (u64 ((orI .u64 (u64 (rest * 2)) x1) - d)), (orI .u64 (u64 (q * 2)) 1), (w64 (i - 1))))) else (bif decide ((orI .u64 (u64 (rest * 2)) x1) ≥ d) then (K (Sum.inl (qhi, (u64 ((orI .u64 (u64 (rest * 2)) x1) - d)), (orI .u64 (u64 (q * 2)) 1), (w64 (i - 1))))) else (K (Sum.inl (qhi, (orI .u64 (u64 (rest * 2)) x1), (u64 (q * 2)), (w64 (i - 1)))))))) else (K (Sum.inr (qhi, rest, q, i)))
theorem spec_l02Divide.lt5_eq {ρ : Type} (lo_1 : Int) (d : Int) (qhi : Int) (rest : Int) (q : Int) (i : Int) (hpre : -1 ≤ i ∧ i ≤ 63) (K : Sum (Int × Int × Int × Int) (Int × Int × Int × Int) → Option ρ) : spec_l02Divide.lt5 lo_1 d qhi rest q i K = K (spec_l02Divide.rnd5 lo_1 d qhi rest q i) := cq (fun h0 => cqF (by first | exact u64_neg _ | (simp only [decide_eq_false_iff_not, decide_eq_true_eq] at *; omega)) (fun h1 => cq (fun h2 => rfl) (fun h2 => cq (fun h3 => rfl) (fun h3 => rfl)))) (fun h0 => rfl)
theorem spec_l02Divide.step5 (lo_1 : Int) (d : Int) (qhi : Int) (rest : Int) (q : Int) (i : Int) (k : Nat) (R : Type) (K : LX → Env → LH → Option R) : loopN spec_l02Divide.ls (k + 1) (exec Try.prog (tab (P := Try.prog) []) 0 51 0 spec_l02Divide.ls (lam [spec_l02Divide.L5]) (cOf Try.f159 0)) (spec_l02Divide.env5 lo_1 d (qhi, rest, q, i)) (spec_l02Divide.heap5 lo_1 d (qhi, rest, q, i)) K = spec_l02Divide.lt5 lo_1 d qhi rest q i (sumK (fun v => loopN spec_l02Divide.ls k (exec Try.prog (tab (P := Try.prog) []) 0 51 0 spec_l02Divide.ls (lam [spec_l02Divide.L5]) (cOf Try.f159 0)) (spec_l02Divide.env5 lo_1 d v) (spec_l02Divide.heap5 lo_1 d v) K) (fun v => K (.exit 0) (spec_l02Divide.env5 lo_1 d v) (spec_l02Divide.heap5 lo_1 d v))) := by kernel_rfl
theorem spec_l02Divide.dec5 (lo_1 : Int) (d : Int) (v : Int × Int × Int × Int) (hv : -1 ≤ v.2.2.2 ∧ v.2.2.2 ≤ 63) (v' : Int × Int × Int × Int) (hr : spec_l02Divide.rnd5 lo_1 d v.1 v.2.1 v.2.2.1 v.2.2.2 = Sum.inl v') : (-1 ≤ v'.2.2.2 ∧ v'.2.2.2 ≤ 63) ∧ (v'.2.2.2 + 1).toNat < (v.2.2.2 + 1).toNat := by
  simp only [spec_l02Divide.rnd5, Bool.cond_eq_ite, decide_eq_true_eq] at hr
  have e : w64 (v.2.2.2 - 1) = v.2.2.2 - 1 := w64_id (by omega) (by omega)
  (repeat' split at hr) <;> cases hr <;> (simp only [e]; omega)
theorem spec_l02Divide.to5 : spec_l02Divide.L5.Ok Try.prog (tab (P := Try.prog) []) 0 51 0 spec_l02Divide.ls (lam [spec_l02Divide.L5]) (cOf Try.f159 0) := by
  intro R tm σ K r h
  simp only [spec_l02Divide.L5] at h
  split at h
  case h_2 => simp at h
  split at h
  case h_2 => simp at h
  rename_i lo_1 d qhi rest q i _ hc
  exact ⟨_, _, _, h, loop_to (x := 0) (rnd := (fun v : Int × Int × Int × Int => spec_l02Divide.rnd5 lo_1 d v.1 v.2.1 v.2.2.1 v.2.2.2)) (env := fun v : Int × Int × Int × Int => spec_l02Divide.env5 lo_1 d v) (heap := fun v : Int × Int × Int × Int => spec_l02Divide.heap5 lo_1 d v) (Inv := (fun v : Int × Int × Int × Int => -1 ≤ v.2.2.2 ∧ v.2.2.2 ≤ 63)) (μ := (fun v : Int × Int × Int × Int => (v.2.2.2 + 1).toNat)) (fun v hv k R K => (spec_l02Divide.step5 lo_1 d v.1 v.2.1 v.2.2.1 v.2.2.2 k R K).trans (spec_l02Divide.lt5_eq lo_1 d v.1 v.2.1 v.2.2.1 v.2.2.2 hv (sumK (fun v => loopN spec_l02Divide.ls k (exec Try.prog (tab (P := Try.prog) []) 0 51 0 spec_l02Divide.ls (lam [spec_l02Divide.L5]) (cOf Try.f159 0)) (spec_l02Divide.env5 lo_1 d v) (spec_l02Divide.heap5 lo_1 d v) K) (fun v => K (.exit 0) (spec_l02Divide.env5 lo_1 d v) (spec_l02Divide.heap5 lo_1 d v))))) (fun v hv v' hr => spec_l02Divide.dec5 lo_1 d v hv v' hr) 65 (qhi, rest, q, i) (by have := of_decide_eq_true hc; simp only []; omega) (by have := of_decide_eq_true hc; simp only []; omega)⟩
theorem spec_l02Divide.lok : ∀ c, Try.f159.body = some c → LamOk Try.prog (tab (P := Try.prog) []) 0 Try.f159.ntmps 0 spec_l02Divide.ls (lam [spec_l02Divide.L5]) (loopsOf c) := by
  intro c hc
  have hb : loopsOf c = [(cOf Try.f159 0)] := by
    have h : loopsOf (Try.f159.body.getD .skip) = [(cOf Try.f159 0)] := by kernel_rfl
    rw [hc] at h
    exact h
  exact lam_ok1 hb spec_l02Divide.to5
def spec_l02Divide.t {ρ : Type} (hi_0 : Int) (lo_1 : Int) (d : Int) (K : (Int × Int × Int) → Option ρ) : Option ρ := bif decide (d = 0) then none else (bif decide (d = 0) then none else (let t1 := (spec_l02Divide.fin5 lo_1 d ((u64 (Int.tdiv hi_0 d)), (Int.tmod hi_0 d), 0, 63)); K (t1.1, t1.2.2.1, t1.2.1)))
theorem spec_l02Divide.t_eq {ρ : Type} (hi_0 : Int) (lo_1 : Int) (d : Int) (hpre : ((d != 0)) = true) (K : (Int × Int × Int) → Option ρ) : spec_l02Divide.t hi_0 lo_1 d K = K (spec_l02Divide hi_0 lo_1 d) := cqF (by exact pd_ne hpre) (fun h0 => cqF (by exact pd_ne hpre) (fun h1 => rfl))
theorem spec_l02Divide.gives (hi_0 : Int) (lo_1 : Int) (d : Int) (hpre : ((d != 0)) = true) : GivesV Try.prog 159 [(cInt .u64).enc hi_0, (cInt .u64).enc lo_1, (cInt .u64).enc d] ((cT3 (cInt .u64) (cInt .u64) (cInt .u64)).enc (spec_l02Divide hi_0 lo_1 d)) :=
  givesL hmix [] 0 spec_l02Divide.ls (lam [spec_l02Divide.L5]) Try.func159 rfl rfl spec_l02Divide.lok ((by kernel_rfl : run1 Try.prog (tab []) 0 spec_l02Divide.ls (lam [spec_l02Divide.L5]) Try.f159 [(cInt .u64).enc hi_0, (cInt .u64).enc lo_1, (cInt .u64).enc d] [] = spec_l02Divide.t hi_0 lo_1 d fun r => some ((cT3 (cInt .u64) (cInt .u64) (cInt .u64)).enc r, [])).trans (spec_l02Divide.t_eq hi_0 lo_1 d hpre _))
def spec_l02Divide.e : Entry Try.prog := entry3P (cInt .u64) (cInt .u64) (cInt .u64) (cT3 (cInt .u64) (cInt .u64) (cInt .u64)) 159 spec_l02Divide (fun hi_0 lo_1 d => (d != 0)) spec_l02Divide.gives

/-! ### spec.l02Of -/
def spec_l02Of.t {ρ : Type} (n : Int) (K : Wd → Option ρ) : Option ρ := bif decide (n < 0) then (K (Wd.mk (-1) (u64 n))) else (K (Wd.mk 0 (u64 n)))
theorem spec_l02Of.t_eq {ρ : Type} (n : Int) (K : Wd → Option ρ) : spec_l02Of.t n K = K (spec_l02Of n) := cq (fun h0 => rfl) (fun h0 => rfl)
theorem spec_l02Of.gives (n : Int) : GivesV Try.prog 162 [(cInt .i64).enc n] (cWd.enc (spec_l02Of n)) :=
  givesT hmix [] 0 none Try.func162 rfl rfl ((by kernel_rfl : run1 Try.prog (tab []) 0 none noL Try.f162 [(cInt .i64).enc n] [] = spec_l02Of.t n fun r => some (cWd.enc r, [])).trans (spec_l02Of.t_eq n _))
def spec_l02Of.e : Entry Try.prog := entry1 (cInt .i64) cWd 162 spec_l02Of spec_l02Of.gives

/-! ### spec.l02Plus -/
def spec_l02Plus.t {ρ : Type} (a : Wd) (b : Wd) (K : Wd → Option ρ) : Option ρ := bif decide ((u64 (a.lo + b.lo)) < a.lo) then (K (Wd.mk (w64 ((w64 (a.hi + b.hi)) + 1)) (u64 (a.lo + b.lo)))) else (K (Wd.mk (w64 (a.hi + b.hi)) (u64 (a.lo + b.lo))))
theorem spec_l02Plus.t_eq {ρ : Type} (a : Wd) (b : Wd) (K : Wd → Option ρ) : spec_l02Plus.t a b K = K (spec_l02Plus a b) := cq (fun h0 => rfl) (fun h0 => rfl)
theorem spec_l02Plus.gives (a : Wd) (b : Wd) : GivesV Try.prog 161 [cWd.enc a, cWd.enc b] (cWd.enc (spec_l02Plus a b)) :=
  givesT hmix [] 0 none Try.func161 rfl rfl ((by kernel_rfl : run1 Try.prog (tab []) 0 none noL Try.f161 [cWd.enc a, cWd.enc b] [] = spec_l02Plus.t a b fun r => some (cWd.enc r, [])).trans (spec_l02Plus.t_eq a b _))
def spec_l02Plus.e : Entry Try.prog := entry2 cWd cWd cWd 161 spec_l02Plus spec_l02Plus.gives

/-! ### spec.l02Div -/
def spec_l02Div.t {ρ : Type} (w : Wd) (d : Int) (K : (Wd × Int) → Option ρ) : Option ρ := bif decide (w.hi ≥ 0) then (bif ((u64 d) != 0) then (let t1 := (spec_l02Divide (u64 w.hi) w.lo (u64 d)); K ((Wd.mk (w64 t1.1) t1.2.1), (w64 t1.2.2))) else none) else (let t2 := (spec_l02Minus w); bif ((u64 d) != 0) then (let t3 := (spec_l02Divide (u64 t2.hi) t2.lo (u64 d)); let t4 := (spec_l02Minus (Wd.mk (w64 t3.1) t3.2.1)); bif (t3.2.2 == 0) then (K (t4, 0)) else (K ((spec_l02Plus t4 (spec_l02Of (-1))), (w64 (d - (w64 t3.2.2)))))) else none)
theorem spec_l02Div.t_eq {ρ : Type} (w : Wd) (d : Int) (hpre : ((u64 d != 0)) = true) (K : (Wd × Int) → Option ρ) : spec_l02Div.t w d K = K (spec_l02Div w d) := cq (fun h0 => cqT (by exact hpre) (fun h1 => rfl)) (fun h0 => cqT (by exact hpre) (fun h1 => cq (fun h2 => rfl) (fun h2 => rfl)))
theorem spec_l02Div.gives (w : Wd) (d : Int) (hpre : ((u64 d != 0)) = true) : GivesV Try.prog 150 [cWd.enc w, (cInt .i64).enc d] ((cT2 cWd (cInt .i64)).enc (spec_l02Div w d)) :=
  givesT hmix [spec_l02Divide.e, spec_l02Minus.e, spec_l02Of.e, spec_l02Plus.e] 0 none Try.func150 rfl rfl ((by kernel_rfl : run1 Try.prog (tab [spec_l02Divide.e, spec_l02Minus.e, spec_l02Of.e, spec_l02Plus.e]) 0 none noL Try.f150 [cWd.enc w, (cInt .i64).enc d] [] = spec_l02Div.t w d fun r => some ((cT2 cWd (cInt .i64)).enc r, [])).trans (spec_l02Div.t_eq w d hpre _))
def spec_l02Div.e : Entry Try.prog := entry2P cWd (cInt .i64) (cT2 cWd (cInt .i64)) 150 spec_l02Div (fun w d => (u64 d != 0)) spec_l02Div.gives

/-! ### spec.l02Int -/
def spec_l02Int.t {ρ : Type} (w : Wd) (K : (Int × Bool) → Option ρ) : Option ρ := let t1 := (spec_l02Of (w64 w.lo)); bif (!((t1.hi == w.hi) && (t1.lo == w.lo))) then (K (0, false)) else (K ((w64 w.lo), true))
theorem spec_l02Int.t_eq {ρ : Type} (w : Wd) (K : (Int × Bool) → Option ρ) : spec_l02Int.t w K = K (spec_l02Int w) := cq (fun h0 => rfl) (fun h0 => rfl)
theorem spec_l02Int.gives (w : Wd) : GivesV Try.prog 152 [cWd.enc w] ((cT2 (cInt .i64) cBool).enc (spec_l02Int w)) :=
  givesT hmix [spec_l02Of.e] 0 none Try.func152 rfl rfl ((by kernel_rfl : run1 Try.prog (tab [spec_l02Of.e]) 0 none noL Try.f152 [cWd.enc w] [] = spec_l02Int.t w fun r => some ((cT2 (cInt .i64) cBool).enc r, [])).trans (spec_l02Int.t_eq w _))
def spec_l02Int.e : Entry Try.prog := entry1 cWd (cT2 (cInt .i64) cBool) 152 spec_l02Int spec_l02Int.gives

/-! ### spec.MulDivFloor -/
def spec_MulDivFloor.t {ρ : Type} (a : Int) (b : Int) (d : Int) (K : (Int × Bool) → Option ρ) : Option ρ := bif decide (d ≤ 0) then (K (0, false)) else (bif (u64 d != 0) then (let t3 := (spec_l02Int (spec_l02Div (spec_l02Mul a b) d).1); K (t3.1, t3.2)) else none)
theorem spec_MulDivFloor.t_eq {ρ : Type} (a : Int) (b : Int) (d : Int) (hpre : (decide (d ≤ 9223372036854775807)) = true) (K : (Int × Bool) → Option ρ) : spec_MulDivFloor.t a b d K = K (spec_MulDivFloor a b d) := cq (fun h0 => rfl) (fun h0 => cqT (by exact pd_u hpre h0) (fun h1 => rfl))
theorem spec_MulDivFloor.gives (a : Int) (b : Int) (d : Int) (hpre : (decide (d ≤ 9223372036854775807)) = true) : GivesV Try.prog 121 [(cInt .i64).enc a, (cInt .i64).enc b, (cInt .i64).enc d] ((cT2 (cInt .i64) cBool).enc (spec_MulDivFloor a b d)) :=
  givesT hmix [spec_l02Mul.e, spec_l02Div.e, spec_l02Int.e] 0 none Try.func121 rfl rfl ((by kernel_rfl : run1 Try.prog (tab [spec_l02Mul.e, spec_l02Div.e, spec_l02Int.e]) 0 none noL Try.f121 [(cInt .i64).enc a, (cInt .i64).enc b, (cInt .i64).enc d] [] = spec_MulDivFloor.t a b d fun r => some ((cT2 (cInt .i64) cBool).enc r, [])).trans (spec_MulDivFloor.t_eq a b d hpre _))
def spec_MulDivFloor.e : Entry Try.prog := entry3P (cInt .i64) (cInt .i64) (cInt .i64) (cT2 (cInt .i64) cBool) 121 spec_MulDivFloor (fun a b d => decide (d ≤ 9223372036854775807)) spec_MulDivFloor.gives

/-! ### spec.l05Units -/
def spec_l05Units.t {ρ : Type} (n : Int) (K : Int → Option ρ) : Option ρ := bif decide (n > 0) then (K ((spec_MulDivFloor n 966367641600000000 7244019458077122843).1)) else (K ((spec_MulDivFloor n 966367641600000000 7244019458077122842).1))
theorem spec_l05Units.t_eq {ρ : Type} (n : Int) (K : Int → Option ρ) : spec_l05Units.t n K = K (spec_l05Units n) := cq (fun h0 => rfl) (fun h0 => rfl)
theorem spec_l05Units.gives (n : Int) : GivesV Try.prog 124 [(cInt .i64).enc n] ((cInt .i64).enc (spec_l05Units n)) :=
  givesT hmix [spec_MulDivFloor.e] 0 none Try.func124 rfl rfl ((by kernel_rfl : run1 Try.prog (tab [spec_MulDivFloor.e]) 0 none noL Try.f124 [(cInt .i64).enc n] [] = spec_l05Units.t n fun r => some ((cInt .i64).enc r, [])).trans (spec_l05Units.t_eq n _))
def spec_l05Units.e : Entry Try.prog := entry1 (cInt .i64) (cInt .i64) 124 spec_l05Units spec_l05Units.gives

/-! ### spec.UnitsOf -/
def spec_UnitsOf.t {ρ : Type} (x : Iv) (K : (Int × Int × Bool) → Option ρ) : Option ρ := bif (spec_IsWhole x) then (K (0, 0, false)) else (let t2 := (spec_l05Units x.lo); let t3 := (spec_l05Units (w64 (0 - x.hi))); bif decide (t2 < (-36000000000)) then (K (0, 0, false)) else (bif decide ((w64 (0 - t3)) > 36000000000) then (K (0, 0, false)) else (K (t2, (w64 (0 - t3)), true))))
theorem spec_UnitsOf.t_eq {ρ : Type} (x : Iv) (K : (Int × Int × Bool) → Option ρ) : spec_UnitsOf.t x K = K (spec_UnitsOf x) := cq (fun h0 => rfl) (fun h0 => cq (fun h1 => rfl) (fun h1 => cq (fun h2 => rfl) (fun h2 => rfl)))
theorem spec_UnitsOf.gives (x : Iv) : GivesV Try.prog 63 [cIv.enc x] ((cT3 (cInt .i64) (cInt .i64) cBool).enc (spec_UnitsOf x)) :=
  givesT hmix [spec_IsWhole.e, spec_l05Units.e] 0 none Try.func63 rfl rfl ((by kernel_rfl : run1 Try.prog (tab [spec_IsWhole.e, spec_l05Units.e]) 0 none noL Try.f63 [cIv.enc x] [] = spec_UnitsOf.t x fun r => some ((cT3 (cInt .i64) (cInt .i64) cBool).enc r, [])).trans (spec_UnitsOf.t_eq x _))
def spec_UnitsOf.e : Entry Try.prog := entry1 cIv (cT3 (cInt .i64) (cInt .i64) cBool) 63 spec_UnitsOf spec_UnitsOf.gives

/-! ### spec.l06Floor -/
def spec_l06Floor.t {ρ : Type} (a : Int) (b : Int) (K : Int → Option ρ) : Option ρ := bif decide (b = 0) then none else (bif decide (b = 0) then none else (bif decide ((Int.tmod a b) < 0) then (K (w64 ((w64 (Int.tdiv a b)) - 1))) else (K (w64 (Int.tdiv a b)))))
theorem spec_l06Floor.t_eq {ρ : Type} (a : Int) (b : Int) (hpre : ((b != 0)) = true) (K : Int → Option ρ) : spec_l06Floor.t a b K = K (spec_l06Floor a b) := cqF (by exact pd_ne hpre) (fun h0 => cqF (by exact pd_ne hpre) (fun h1 => cq (fun h2 => rfl) (fun h2 => rfl)))
theorem spec_l06Floor.gives (a : Int) (b : Int) (hpre : ((b != 0)) = true) : GivesV Try.prog 64 [(cInt .i64).enc a, (cInt .i64).enc b] ((cInt .i64).enc (spec_l06Floor a b)) :=
  givesT hmix [] 0 none Try.func64 rfl rfl ((by kernel_rfl : run1 Try.prog (tab []) 0 none noL Try.f64 [(cInt .i64).enc a, (cInt .i64).enc b] [] = spec_l06Floor.t a b fun r => some ((cInt .i64).enc r, [])).trans (spec_l06Floor.t_eq a b hpre _))
def spec_l06Floor.e : Entry Try.prog := entry2P (cInt .i64) (cInt .i64) (cInt .i64) 64 spec_l06Floor (fun a b => (b != 0)) spec_l06Floor.gives

/-! ### spec.l11Wrap -/
def spec_l11Wrap.t {ρ : Type} (n : Int) (K : Int → Option ρ) : Option ρ := bif decide ((Int.tmod n 3600000000) > 1800000000) then (bif decide ((w64 ((Int.tmod n 3600000000) - 3600000000)) ≤ (-1800000000)) then (K (w64 ((w64 ((Int.tmod n 3600000000) - 3600000000)) + 3600000000))) else (K (w64 ((Int.tmod n 3600000000) - 3600000000)))) else (bif decide ((Int.tmod n 3600000000) ≤ (-1800000000)) then (K (w64 ((Int.tmod n 3600000000) + 3600000000))) else (K (Int.tmod n 3600000000)))
theorem spec_l11Wrap.t_eq {ρ : Type} (n : Int) (K : Int → Option ρ) : spec_l11Wrap.t n K = K (spec_l11Wrap n) := cq (fun h0 => cq (fun h1 => rfl) (fun h1 => rfl)) (fun h0 => cq (fun h1 => rfl) (fun h1 => rfl))
theorem spec_l11Wrap.gives (n : Int) : GivesV Try.prog 65 [(cInt .i64).enc n] ((cInt .i64).enc (spec_l11Wrap n)) :=
  givesT hmix [] 0 none Try.func65 rfl rfl ((by kernel_rfl : run1 Try.prog (tab []) 0 none noL Try.f65 [(cInt .i64).enc n] [] = spec_l11Wrap.t n fun r => some ((cInt .i64).enc r, [])).trans (spec_l11Wrap.t_eq n _))
def spec_l11Wrap.e : Entry Try.prog := entry1 (cInt .i64) (cInt .i64) 65 spec_l11Wrap spec_l11Wrap.gives

/-! ### spec.l00In -/
def spec_l00In.t {ρ : Type} (n : Int) (low : Int) (high : Int) (K : Bool → Option ρ) : Option ρ := bif decide (n ≥ low) then (K (decide (n ≤ high))) else (K false)
theorem spec_l00In.t_eq {ρ : Type} (n : Int) (low : Int) (high : Int) (K : Bool → Option ρ) : spec_l00In.t n low high K = K (spec_l00In n low high) := cq (fun h0 => rfl) (fun h0 => rfl)
theorem spec_l00In.gives (n : Int) (low : Int) (high : Int) : GivesV Try.prog 93 [(cInt .i64).enc n, (cInt .i64).enc low, (cInt .i64).enc high] (cBool.enc (spec_l00In n low high)) :=
  givesT hmix [] 0 none Try.func93 rfl rfl ((by kernel_rfl : run1 Try.prog (tab []) 0 none noL Try.f93 [(cInt .i64).enc n, (cInt .i64).enc low, (cInt .i64).enc high] [] = spec_l00In.t n low high fun r => some (cBool.enc r, [])).trans (spec_l00In.t_eq n low high _))
def spec_l00In.e : Entry Try.prog := entry3 (cInt .i64) (cInt .i64) (cInt .i64) cBool 93 spec_l00In spec_l00In.gives

/-! ### spec.l11Ok -/
def spec_l11Ok.t {ρ : Type} (p : Pt) (K : Bool → Option ρ) : Option ρ := bif (spec_l00In p.lat (-900000000) 900000000) then (K (spec_l00In p.lon (-1799999999) 1800000000)) else (K false)
theorem spec_l11Ok.t_eq {ρ : Type} (p : Pt) (K : Bool → Option ρ) : spec_l11Ok.t p K = K (spec_l11Ok p) := cq (fun h0 => rfl) (fun h0 => rfl)
theorem spec_l11Ok.gives (p : Pt) : GivesV Try.prog 57 [cPt.enc p] (cBool.enc (spec_l11Ok p)) :=
  givesT hmix [spec_l00In.e] 0 none Try.func57 rfl rfl ((by kernel_rfl : run1 Try.prog (tab [spec_l00In.e]) 0 none noL Try.f57 [cPt.enc p] [] = spec_l11Ok.t p fun r => some (cBool.enc r, [])).trans (spec_l11Ok.t_eq p _))
def spec_l11Ok.e : Entry Try.prog := entry1 cPt cBool 57 spec_l11Ok spec_l11Ok.gives

/-! ### spec.l00Max -/
def spec_l00Max.t {ρ : Type} (a : Int) (b : Int) (K : Int → Option ρ) : Option ρ := bif decide (a > b) then (K a) else (K b)
theorem spec_l00Max.t_eq {ρ : Type} (a : Int) (b : Int) (K : Int → Option ρ) : spec_l00Max.t a b K = K (spec_l00Max a b) := cq (fun h0 => rfl) (fun h0 => rfl)
theorem spec_l00Max.gives (a : Int) (b : Int) : GivesV Try.prog 66 [(cInt .i64).enc a, (cInt .i64).enc b] ((cInt .i64).enc (spec_l00Max a b)) :=
  givesT hmix [] 0 none Try.func66 rfl rfl ((by kernel_rfl : run1 Try.prog (tab []) 0 none noL Try.f66 [(cInt .i64).enc a, (cInt .i64).enc b] [] = spec_l00Max.t a b fun r => some ((cInt .i64).enc r, [])).trans (spec_l00Max.t_eq a b _))
def spec_l00Max.e : Entry Try.prog := entry2 (cInt .i64) (cInt .i64) (cInt .i64) 66 spec_l00Max spec_l00Max.gives

/-! ### spec.MiddlePoint -/
def spec_MiddlePoint.t {ρ : Type} (lat : Iv) (lon : Iv) (K : (Pt × Int × Int) → Option ρ) : Option ρ := let t1 := (spec_UnitsOf lat); let t2 := (spec_UnitsOf lon); bif (!t1.2.2) then (K ((Pt.mk 0 0), 0, 9)) else (bif (!t2.2.2) then (K ((Pt.mk 0 0), 0, 9)) else (let t3 := (spec_l06Floor (w64 (t1.1 + t1.2.1)) 2); let t5 := (spec_l11Wrap (spec_l06Floor (w64 (t2.1 + t2.2.1)) 2)); bif (!(spec_l11Ok (Pt.mk t3 t5))) then (K ((Pt.mk 0 0), 0, 2)) else (K ((Pt.mk t3 t5), (spec_l00Max (w64 (t1.2.1 - t1.1)) (w64 (t2.2.1 - t2.1))), 0))))
theorem spec_MiddlePoint.t_eq {ρ : Type} (lat : Iv) (lon : Iv) (K : (Pt × Int × Int) → Option ρ) : spec_MiddlePoint.t lat lon K = K (spec_MiddlePoint lat lon) := cq (fun h0 => rfl) (fun h0 => cq (fun h1 => rfl) (fun h1 => cq (fun h2 => rfl) (fun h2 => rfl)))
theorem spec_MiddlePoint.gives (lat : Iv) (lon : Iv) : GivesV Try.prog 25 [cIv.enc lat, cIv.enc lon] ((cT3 cPt (cInt .i64) (cInt .i64)).enc (spec_MiddlePoint lat lon)) :=
  givesT hmix [spec_UnitsOf.e, spec_l06Floor.e, spec_l11Wrap.e, spec_l11Ok.e, spec_l00Max.e] 0 none Try.func25 rfl rfl ((by kernel_rfl : run1 Try.prog (tab [spec_UnitsOf.e, spec_l06Floor.e, spec_l11Wrap.e, spec_l11Ok.e, spec_l00Max.e]) 0 none noL Try.f25 [cIv.enc lat, cIv.enc lon] [] = spec_MiddlePoint.t lat lon fun r => some ((cT3 cPt (cInt .i64) (cInt .i64)).enc r, [])).trans (spec_MiddlePoint.t_eq lat lon _))
def spec_MiddlePoint.e : Entry Try.prog := entry2 cIv cIv (cT3 cPt (cInt .i64) (cInt .i64)) 25 spec_MiddlePoint spec_MiddlePoint.gives

/-! ### impl.ValidInterval -/
def impl_ValidInterval.t {ρ : Type} (i : Iv) (K : Bool → Option ρ) : Option ρ := bif decide ((-1152921504606846976) < i.lo) then (bif decide (i.lo ≤ i.hi) then (K (decide (i.hi < 1152921504606846976))) else (K false)) else (K false)
theorem impl_ValidInterval.t_eq {ρ : Type} (i : Iv) (K : Bool → Option ρ) : impl_ValidInterval.t i K = K (impl_ValidInterval i) := cq (fun h0 => cq (fun h1 => rfl) (fun h1 => rfl)) (fun h0 => rfl)
theorem impl_ValidInterval.gives (i : Iv) : GivesV Try.prog 129 [cIv.enc i] (cBool.enc (impl_ValidInterval i)) :=
  givesT hmix [] 0 none Try.func129 rfl rfl ((by kernel_rfl : run1 Try.prog (tab []) 0 none noL Try.f129 [cIv.enc i] [] = impl_ValidInterval.t i fun r => some (cBool.enc r, [])).trans (impl_ValidInterval.t_eq i _))
def impl_ValidInterval.e : Entry Try.prog := entry1 cIv cBool 129 impl_ValidInterval impl_ValidInterval.gives

/-! ### impl.IsWhole -/
def impl_IsWhole.t {ρ : Type} (i : Iv) (K : Bool → Option ρ) : Option ρ := K (!(impl_ValidInterval i))
theorem impl_IsWhole.t_eq {ρ : Type} (i : Iv) (K : Bool → Option ρ) : impl_IsWhole.t i K = K (impl_IsWhole i) := rfl
theorem impl_IsWhole.gives (i : Iv) : GivesV Try.prog 76 [cIv.enc i] (cBool.enc (impl_IsWhole i)) :=
  givesT hmix [impl_ValidInterval.e] 0 none Try.func76 rfl rfl ((by kernel_rfl : run1 Try.prog (tab [impl_ValidInterval.e]) 0 none noL Try.f76 [cIv.enc i] [] = impl_IsWhole.t i fun r => some (cBool.enc r, [])).trans (impl_IsWhole.t_eq i _))
def impl_IsWhole.e : Entry Try.prog := entry1 cIv cBool 76 impl_IsWhole impl_IsWhole.gives

/-! ### bits.Mul64 -/
def bits_Mul64.t {ρ : Type} (x : Int) (y : Int) (K : (Int × Int) → Option ρ) : Option ρ := let x2 := (u64 ((u64 ((Int.fdiv x 4294967296) * (andI .u64 y 4294967295))) + (Int.fdiv (u64 ((andI .u64 x 4294967295) * (andI .u64 y 4294967295))) 4294967296))); K ((u64 ((u64 ((u64 ((Int.fdiv x 4294967296) * (Int.fdiv y 4294967296))) + (Int.fdiv x2 4294967296))) + (Int.fdiv (u64 ((andI .u64 x2 4294967295) + (u64 ((andI .u64 x 4294967295) * (Int.fdiv y 4294967296))))) 4294967296))), (u64 (x * y)))
theorem bits_Mul64.t_eq {ρ : Type} (x : Int) (y : Int) (K : (Int × Int) → Option ρ) : bits_Mul64.t x y K = K (bits_Mul64 x y) := rfl
theorem bits_Mul64.gives (x : Int) (y : Int) : GivesV Try.prog 168 [(cInt .u64).enc x, (cInt .u64).enc y] ((cT2 (cInt .u64) (cInt .u64)).enc (bits_Mul64 x y)) :=
  givesT hmix [] 0 none Try.func168 rfl rfl ((by kernel_rfl : run1 Try.prog (tab []) 0 none noL Try.f168 [(cInt .u64).enc x, (cInt .u64).enc y] [] = bits_Mul64.t x y fun r => some ((cT2 (cInt .u64) (cInt .u64)).enc r, [])).trans (bits_Mul64.t_eq x y _))
def bits_Mul64.e : Entry Try.prog := entry2 (cInt .u64) (cInt .u64) (cT2 (cInt .u64) (cInt .u64)) 168 bits_Mul64 bits_Mul64.gives

/-! ### impl.WideMul -/
def impl_WideMul.t {ρ : Type} (a : Int) (b : Int) (K : Wd → Option ρ) : Option ρ := let t1 := (bits_Mul64 (u64 a) (u64 b)); bif decide (a < 0) then (bif decide (b < 0) then (K (Wd.mk (w64 (u64 ((u64 (t1.1 - (u64 b))) - (u64 a)))) t1.2)) else (K (Wd.mk (w64 (u64 (t1.1 - (u64 b)))) t1.2))) else (bif decide (b < 0) then (K (Wd.mk (w64 (u64 (t1.1 - (u64 a)))) t1.2)) else (K (Wd.mk (w64 t1.1) t1.2)))
theorem impl_WideMul.t_eq {ρ : Type} (a : Int) (b : Int) (K : Wd → Option ρ) : impl_WideMul.t a b K = K (impl_WideMul a b) := cq (fun h0 => cq (fun h1 => rfl) (fun h1 => rfl)) (fun h0 => cq (fun h1 => rfl) (fun h1 => rfl))
theorem impl_WideMul.gives (a : Int) (b : Int) : GivesV Try.prog 154 [(cInt .i64).enc a, (cInt .i64).enc b] (cWd.enc (impl_WideMul a b)) :=
  givesT hmix [bits_Mul64.e] 0 none Try.func154 rfl rfl ((by kernel_rfl : run1 Try.prog (tab [bits_Mul64.e]) 0 none noL Try.f154 [(cInt .i64).enc a, (cInt .i64).enc b] [] = impl_WideMul.t a b fun r => some (cWd.enc r, [])).trans (impl_WideMul.t_eq a b _))
def impl_WideMul.e : Entry Try.prog := entry2 (cInt .i64) (cInt .i64) cWd 154 impl_WideMul impl_WideMul.gives

/-! ### bits.Len64 -/
theorem bits_Len64.gives (x : Int) (hpre : (decide (0 ≤ x ∧ x < 18446744073709551616)) = true) : GivesV Try.prog 173 [(cInt .u64).enc x] ((cInt .i64).enc (bits_Len64 x)) := by
  simp only [decide_eq_true_eq] at hpre
  exact givesC Try.func173 rfl (by kernel_rfl) rfl rfl (fun w => Go.Proofs.Try.bits_Len64 x w (by omega) (by omega))
def bits_Len64.e : Entry Try.prog := entry1P (cInt .u64) (cInt .i64) 173 bits_Len64 (fun x => decide (0 ≤ x ∧ x < 18446744073709551616)) bits_Len64.gives


/-! ### bits.LeadingZeros64 -/
def bits_LeadingZeros64.t {ρ : Type} (x : Int) (K : Int → Option ρ) : Option ρ := bif decide (0 ≤ x ∧ x < 18446744073709551616) then (K (w64 (64 - (bits_Len64 x)))) else none
theorem bits_LeadingZeros64.t_eq {ρ : Type} (x : Int) (hpre : (decide (0 ≤ x ∧ x < 18446744073709551616)) = true) (K : Int → Option ρ) : bits_LeadingZeros64.t x K = K (bits_LeadingZeros64 x) := cqT (by first | exact u64_neg _ | (simp only [decide_eq_true_eq, decide_eq_false_iff_not] at *; omega) | (simp only [Bool.not_eq_eq_eq_not, Bool.not_false, inside_iff, l00In_iff, decide_eq_true_eq, decide_eq_false_iff_not, w64_def, u64_def] at *; omega)) (fun h0 => rfl)
theorem bits_LeadingZeros64.gives (x : Int) (hpre : (decide (0 ≤ x ∧ x < 18446744073709551616)) = true) : GivesV Try.prog 172 [(cInt .u64).enc x] ((cInt .i64).enc (bits_LeadingZeros64 x)) :=
  givesT hmix [bits_Len64.e] 0 none Try.func172 rfl rfl ((by kernel_rfl : run1 Try.prog (tab [bits_Len64.e]) 0 none noL Try.f172 [(cInt .u64).enc x] [] = bits_LeadingZeros64.t x fun r => some ((cInt .i64).enc r, [])).trans (bits_LeadingZeros64.t_eq x hpre _))
def bits_LeadingZeros64.e : Entry Try.prog := entry1P (cInt .u64) (cInt .i64) 172 bits_LeadingZeros64 (fun x => decide (0 ≤ x ∧ x < 18446744073709551616)) bits_LeadingZeros64.gives

/-! ### bits.Div64 -/
def bits_Div64.ls : Option (List Nat) := some [2, 8, 9, 10, 11, 13, 14, 15, 16, 17, 18]
def bits_Div64.env17 (y_ : Int) (s_ : Int) (yn1 : Int) (yn0 : Int) (un32 : Int) (un1 : Int) (un0 : Int) (v : Int × Int) : Env := [(2, .int .u64 y_), (8, .int .u64 s_), (9, .int .u64 yn1), (10, .int .u64 yn0), (11, .int .u64 un32), (13, .int .u64 un1), (14, .int .u64 un0), (15, .int .u64 v.1), (16, .int .u64 v.2)]
def bits_Div64.heap17 (y_ : Int) (s_ : Int) (yn1 : Int) (yn0 : Int) (un32 : Int) (un1 : Int) (un0 : Int) (v : Int × Int) : LH := []
def bits_Div64.L17 : LEntry := ⟨17, fun _ tm σ K => match tm, σ with
  | [(2, .int .u64 y_), (8, .int .u64 s_), (9, .int .u64 yn1), (10, .int .u64 yn0), (11, .int .u64 un32), (13, .int .u64 un1), (14, .int .u64 un0), (15, .int .u64 q1), (16, .int .u64 rhat)], [] => (match decide (2147483648 ≤ yn1 ∧ yn1 < 4294967296 ∧ 0 ≤ rhat ∧ rhat < 4294967296) with | true => K (.exit 0) (bits_Div64.env17 y_ s_ yn1 yn0 un32 un1 un0 (bits_Div64.fin17 y_ s_ yn1 yn0 un32 un1 un0 (q1, rhat))) (bits_Div64.heap17 y_ s_ yn1 yn0 un32 un1 un0 (bits_Div64.fin17 y_ s_ yn1 yn0 un32 un1 un0 (q1, rhat))) | false => none)
  | _, _ => none⟩
def bits_Div64.env24 (y_ : Int) (s_ : Int) (yn1 : Int) (yn0 : Int) (un32 : Int) (un1 : Int) (un0 : Int) (q1 : Int) (un21 : Int) (v : Int × Int) : Env := [(2, .int .u64 y_), (8, .int .u64 s_), (9, .int .u64 yn1), (10, .int .u64 yn0), (11, .int .u64 un32), (13, .int .u64 un1), (14, .int .u64 un0), (15, .int .u64 q1), (16, .int .u64 v.1), (17, .int .u64 un21), (18, .int .u64 v.2)]
def bits_Div64.heap24 (y_ : Int) (s_ : Int) (yn1 : Int) (yn0 : Int) (un32 : Int) (un1 : Int) (un0 : Int) (q1 : Int) (un21 : Int) (v : Int × Int) : LH := []
def bits_Div64.L24 : LEntry := ⟨24, fun _ tm σ K => match tm, σ with
  | [(2, .int .u64 y_), (8, .int .u64 s_), (9, .int .u64 yn1), (10, .int .u64 yn0), (11, .int .u64 un32), (13, .int .u64 un1), (14, .int .u64 un0), (15, .int .u64 q1), (16, .int .u64 rhat), (17, .int .u64 un21), (18, .int .u64 q0)], [] => (match decide (2147483648 ≤ yn1 ∧ yn1 < 4294967296 ∧ 0 ≤ rhat ∧ rhat < 4294967296) with | true => K (.exit 2) (bits_Div64.env24 y_ s_ yn1 yn0 un32 un1 un0 q1 un21 (bits_Div64.fin24 y_ s_ yn1 yn0 un32 un1 un0 q1 un21 (rhat, q0))) (bits_Div64.heap24 y_ s_ yn1 yn0 un32 un1 un0 q1 un21 (bits_Div64.fin24 y_ s_ yn1 yn0 un32 un1 un0 q1 un21 (rhat, q0))) | false => none)
  | _, _ => none⟩
def bits_Div64.lt17 {ρ : Type} (y_ : Int) (s_ : Int) (yn1 : Int) (yn0 : Int) (un32 : Int) (un1 : Int) (un0 : Int) (q1 : Int) (rhat : Int) (K : Sum (Int × Int) (Int × Int) → Option ρ) : Option ρ := bif decide (q1 ≥ 4294967296) then (bif decide ((u64 (rhat + yn1)) ≥ 4294967296) then (K (Sum.inr ((u64 (q1 - 1)), (u64 (rhat + yn1))))) else (K (Sum.inl ((u64 (q1 - 1)), (u64 (rhat + yn1)))))) else (bif decide ((u64 (q1 * yn0)) > (u64 ((u64 (4294967296 * rhat)) + un1))) then (bif decide ((u64 (rhat + yn1)) ≥ 4294967296) then (K (Sum.inr ((u64 (q1 - 1)), (u64 (rhat + yn1))))) else (K (Sum.inl ((u64 (q1 - 1)), (u64 (rhat + yn1)))))) else (K (Sum.inr (q1, rhat))))
theorem bits_Div64.lt17_eq {ρ : Type} (y_ : Int) (s_ : Int) (yn1 : Int) (yn0 : Int) (un32 : Int) (un1 : Int) (un0 : Int) (q1 : Int) (rhat : Int) (hpre : 2147483648 ≤ yn1 ∧ yn1 < 4294967296 ∧ 0 ≤ rhat ∧ rhat < 4294967296) (K : Sum (Int × Int) (Int × Int) → Option ρ) : bits_Div64.lt17 y_ s_ yn1 yn0 un32 un1 un0 q1 rhat K = K (bits_Div64.rnd17 y_ s_ yn1 yn0 un32 un1 un0 q1 rhat) := cq (fun h0 => cq (fun h1 => rfl) (fun h1 => rfl)) (fun h0 => cq (fun h1 => cq (fun h2 => rfl) (fun h2 => rfl)) (fun h1 => rfl))
theorem bits_Div64.step17 (y_ : Int) (s_ : Int) (yn1 : Int) (yn0 : Int) (un32 : Int) (un1 : Int) (un0 : Int) (q1 : Int) (rhat : Int) (k : Nat) (R : Type) (K : LX → Env → LH → Option R) : loopN bits_Div64.ls (k + 1) (exec Try.prog (tab (P := Try.prog) [bits_LeadingZeros64.e]) 0 135 0 bits_Div64.ls (lam [bits_Div64.L17, bits_Div64.L24]) (cOf Try.f170 0)) (bits_Div64.env17 y_ s_ yn1 yn0 un32 un1 un0 (q1, rhat)) (bits_Div64.heap17 y_ s_ yn1 yn0 un32 un1 un0 (q1, rhat)) K = bits_Div64.lt17 y_ s_ yn1 yn0 un32 un1 un0 q1 rhat (sumK (fun v => loopN bits_Div64.ls k (exec Try.prog (tab (P := Try.prog) [bits_LeadingZeros64.e]) 0 135 0 bits_Div64.ls (lam [bits_Div64.L17, bits_Div64.L24]) (cOf Try.f170 0)) (bits_Div64.env17 y_ s_ yn1 yn0 un32 un1 un0 v) (bits_Div64.heap17 y_ s_ yn1 yn0 un32 un1 un0 v) K) (fun v => K (.exit 0) (bits_Div64.env17 y_ s_ yn1 yn0 un32 un1 un0 v) (bits_Div64.heap17 y_ s_ yn1 yn0 un32 un1 un0 v))) := by kernel_rfl
theorem bits_Div64.dec17 (y_ : Int) (s_ : Int) (yn1 : Int) (yn0 : Int) (un32 : Int) (un1 : Int) (un0 : Int) (v : Int × Int) (hv : 2147483648 ≤ yn1 ∧ yn1 < 4294967296 ∧ 0 ≤ v.2 ∧ v.2 < 4294967296) (v' : Int × Int) (hr : bits_Div64.rnd17 y_ s_ yn1 yn0 un32 un1 un0 v.1 v.2 = Sum.inl v') : (2147483648 ≤ yn1 ∧ yn1 < 4294967296 ∧ 0 ≤ v'.2 ∧ v'.2 < 4294967296) ∧ (if v'.2 < 2147483648 then 1 else 0) < (if v.2 < 2147483648 then 1 else 0) := by
  simp only [bits_Div64.rnd17, Bool.cond_eq_ite, decide_eq_true_eq] at hr
  have e : u64 (v.2 + yn1) = v.2 + yn1 := u64_id (by omega) (by omega)
  simp only [e] at hr
  (repeat' split at hr) <;> cases hr <;> (simp only []; split <;> split <;> omega)
theorem bits_Div64.to17 : bits_Div64.L17.Ok Try.prog (tab (P := Try.prog) [bits_LeadingZeros64.e]) 0 135 0 bits_Div64.ls (lam [bits_Div64.L17, bits_Div64.L24]) (cOf Try.f170 0) := by
  intro R tm σ K r h
  simp only [bits_Div64.L17] at h
  split at h
  case h_2 => simp at h
  split at h
  case h_2 => simp at h
  rename_i y_ s_ yn1 yn0 un32 un1 un0 q1 rhat _ hc
  exact ⟨_, _, _, h, loop_to (x := 0) (rnd := (fun v : Int × Int => bits_Div64.rnd17 y_ s_ yn1 yn0 un32 un1 un0 v.1 v.2)) (env := fun v : Int × Int => bits_Div64.env17 y_ s_ yn1 yn0 un32 un1 un0 v) (heap := fun v : Int × Int => bits_Div64.heap17 y_ s_ yn1 yn0 un32 un1 un0 v) (Inv := (fun v : Int × Int => 2147483648 ≤ yn1 ∧ yn1 < 4294967296 ∧ 0 ≤ v.2 ∧ v.2 < 4294967296)) (μ := (fun v : Int × Int => (if v.2 < 2147483648 then 1 else 0))) (fun v hv k R K => (bits_Div64.step17 y_ s_ yn1 yn0 un32 un1 un0 v.1 v.2 k R K).trans (bits_Div64.lt17_eq y_ s_ yn1 yn0 un32 un1 un0 v.1 v.2 hv (sumK (fun v => loopN bits_Div64.ls k (exec Try.prog (tab (P := Try.prog) [bits_LeadingZeros64.e]) 0 135 0 bits_Div64.ls (lam [bits_Div64.L17, bits_Div64.L24]) (cOf Try.f170 0)) (bits_Div64.env17 y_ s_ yn1 yn0 un32 un1 un0 v) (bits_Div64.heap17 y_ s_ yn1 yn0 un32 un1 un0 v) K) (fun v => K (.exit 0) (bits_Div64.env17 y_ s_ yn1 yn0 un32 un1 un0 v) (bits_Div64.heap17 y_ s_ yn1 yn0 un32 un1 un0 v))))) (fun v hv v' hr => bits_Div64.dec17 y_ s_ yn1 yn0 un32 un1 un0 v hv v' hr) 2 (q1, rhat) (by have := of_decide_eq_true hc; simp only []; omega) (by simp only []; split <;> omega)⟩
def bits_Div64.lt24 {ρ : Type} (y_ : Int) (s_ : Int) (yn1 : Int) (yn0 : Int) (un32 : Int) (un1 : Int) (un0 : Int) (q1 : Int) (un21 : Int) (rhat : Int) (q0 : Int) (K : Sum (Int × Int) (Int × Int) → Option ρ) : Option ρ := bif decide (q0 ≥ 4294967296) then (bif decide ((u64 (rhat + yn1)) ≥ 4294967296) then (K (Sum.inr ((u64 (rhat + yn1)), (u64 (q0 - 1))))) else (K (Sum.inl ((u64 (rhat + yn1)), (u64 (q0 - 1)))))) else (bif decide ((u64 (q0 * yn0)) > (u64 ((u64 (4294967296 * rhat)) + un0))) then (bif decide ((u64 (rhat + yn1)) ≥ 4294967296) then (K (Sum.inr ((u64 (rhat + yn1)), (u64 (q0 - 1))))) else (K (Sum.inl ((u64 (rhat + yn1)), (u64 (q0 - 1)))))) else (K (Sum.inr (rhat, q0))))
theorem bits_Div64.lt24_eq {ρ : Type} (y_ : Int) (s_ : Int) (yn1 : Int) (yn0 : Int) (un32 : Int) (un1 : Int) (un0 : Int) (q1 : Int) (un21 : Int) (rhat : Int) (q0 : Int) (hpre : 2147483648 ≤ yn1 ∧ yn1 < 4294967296 ∧ 0 ≤ rhat ∧ rhat < 4294967296) (K : Sum (Int × Int) (Int × Int) → Option ρ) : bits_Div64.lt24 y_ s_ yn1 yn0 un32 un1 un0 q1 un21 rhat q0 K = K (bits_Div64.rnd24 y_ s_ yn1 yn0 un32 un1 un0 q1 un21 rhat q0) := cq (fun h0 => cq (fun h1 => rfl) (fun h1 => rfl)) (fun h0 => cq (fun h1 => cq (fun h2 => rfl) (fun h2 => rfl)) (fun h1 => rfl))
theorem bits_Div64.step24 (y_ : Int) (s_ : Int) (yn1 : Int) (yn0 : Int) (un32 : Int) (un1 : Int) (un0 : Int) (q1 : Int) (un21 : Int) (rhat : Int) (q0 : Int) (k : Nat) (R : Type) (K : LX → Env → LH → Option R) : loopN bits_Div64.ls (k + 1) (exec Try.prog (tab (P := Try.prog) [bits_LeadingZeros64.e]) 0 135 0 bits_Div64.ls (lam [bits_Div64.L17, bits_Div64.L24]) (cOf Try.f170 1)) (bits_Div64.env24 y_ s_ yn1 yn0 un32 un1 un0 q1 un21 (rhat, q0)) (bits_Div64.heap24 y_ s_ yn1 yn0 un32 un1 un0 q1 un21 (rhat, q0)) K = bits_Div64.lt24 y_ s_ yn1 yn0 un32 un1 un0 q1 un21 rhat q0 (sumK (fun v => loopN bits_Div64.ls k (exec Try.prog (tab (P := Try.prog) [bits_LeadingZeros64.e]) 0 135 0 bits_Div64.ls (lam [bits_Div64.L17, bits_Div64.L24]) (cOf Try.f170 1)) (bits_Div64.env24 y_ s_ yn1 yn0 un32 un1 un0 q1 un21 v) (bits_Div64.heap24 y_ s_ yn1 yn0 un32 un1 un0 q1 un21 v) K) (fun v => K (.exit 2) (bits_Div64.env24 y_ s_ yn1 yn0 un32 un1 un0 q1 un21 v) (bits_Div64.heap24 y_ s_ yn1 yn0 un32 un1 un0 q1 un21 v))) := by kernel_rfl
theorem bits_Div64.dec24 (y_ : Int) (s_ : Int) (yn1 : Int) (yn0 : Int) (un32 : Int) (un1 : Int) (un0 : Int) (q1 : Int) (un21 : Int) (v : Int × Int) (hv : 2147483648 ≤ yn1 ∧ yn1 < 4294967296 ∧ 0 ≤ v.1 ∧ v.1 < 4294967296) (v' : Int × Int) (hr : bits_Div64.rnd24 y_ s_ yn1 yn0 un32 un1 un0 q1 un21 v.1 v.2 = Sum.inl v') : (2147483648 ≤ yn1 ∧ yn1 < 4294967296 ∧ 0 ≤ v'.1 ∧ v'.1 < 4294967296) ∧ (if v'.1 < 2147483648 then 1 else 0) < (if v.1 < 2147483648 then 1 else 0) := by
  simp only [bits_Div64.rnd24, Bool.cond_eq_ite, decide_eq_true_eq] at hr
  have e : u64 (v.1 + yn1) = v.1 + yn1 := u64_id (by omega) (by omega)
  simp only [e] at hr
  (repeat' split at hr) <;> cases hr <;> (simp only []; split <;> split <;> omega)
theorem bits_Div64.to24 : bits_Div64.L24.Ok Try.prog (tab (P := Try.prog) [bits_LeadingZeros64.e]) 0 135 0 bits_Div64.ls (lam [bits_Div64.L17, bits_Div64.L24]) (cOf Try.f170 1) := by
  intro R tm σ K r h
  simp only [bits_Div64.L24] at h
  split at h
  case h_2 => simp at h
  split at h
  case h_2 => simp at h
  rename_i y_ s_ yn1 yn0 un32 un1 un0 q1 rhat un21 q0 _ hc
  exact ⟨_, _, _, h, loop_to (x := 2) (rnd := (fun v : Int × Int => bits_Div64.rnd24 y_ s_ yn1 yn0 un32 un1 un0 q1 un21 v.1 v.2)) (env := fun v : Int × Int => bits_Div64.env24 y_ s_ yn1 yn0 un32 un1 un0 q1 un21 v) (heap := fun v : Int × Int => bits_Div64.heap24 y_ s_ yn1 yn0 un32 un1 un0 q1 un21 v) (Inv := (fun v : Int × Int => 2147483648 ≤ yn1 ∧ yn1 < 4294967296 ∧ 0 ≤ v.1 ∧ v.1 < 4294967296)) (μ := (fun v : Int × Int => (if v.1 < 2147483648 then 1 else 0))) (fun v hv k R K => (bits_Div64.step24 y_ s_ yn1 yn0 un32 un1 un0 q1 un21 v.1 v.2 k R K).trans (bits_Div64.lt24_eq y_ s_ yn1 yn0 un32 un1 un0 q1 un21 v.1 v.2 hv (sumK (fun v => loopN bits_Div64.ls k (exec Try.prog (tab (P := Try.prog) [bits_LeadingZeros64.e]) 0 135 0 bits_Div64.ls (lam [bits_Div64.L17, bits_Div64.L24]) (cOf Try.f170 1)) (bits_Div64.env24 y_ s_ yn1 yn0 un32 un1 un0 q1 un21 v) (bits_Div64.heap24 y_ s_ yn1 yn0 un32 un1 un0 q1 un21 v) K) (fun v => K (.exit 2) (bits_Div64.env24 y_ s_ yn1 yn0 un32 un1 un0 q1 un21 v) (bits_Div64.heap24 y_ s_ yn1 yn0 un32 un1 un0 q1 un21 v))))) (fun v hv v' hr => bits_Div64.dec24 y_ s_ yn1 yn0 un32 un1 un0 q1 un21 v hv v' hr) 2 (rhat, q0) (by have := of_decide_eq_true hc; simp only []; omega) (by simp only []; split <;> omega)⟩
theorem bits_Div64.lok : ∀ c, Try.f170.body = some c → LamOk Try.prog (tab (P := Try.prog) [bits_LeadingZeros64.e]) 0 Try.f170.ntmps 0 bits_Div64.ls (lam [bits_Div64.L17, bits_Div64.L24]) (loopsOf c) := by
  intro c hc
  have hb : loopsOf c = [(cOf Try.f170 0), (cOf Try.f170 1)] := by
    have h : loopsOf (Try.f170.body.getD .skip) = [(cOf Try.f170 0), (cOf Try.f170 1)] := by kernel_rfl
    rw [hc] at h
    exact h
  exact lam_ok2 hb (by kernel_rfl) (by kernel_rfl) bits_Div64.to17 bits_Div64.to24
def bits_Div64.t {ρ : Type} (d : Int) (i : Int) (a2 : Int) (K : (Int × Int) → Option ρ) : Option ρ := bif (a2 == 0) then none else (bif decide (a2 ≤ d) then none else (bif (d == 0) then (bif decide (a2 = 0) then none else (bif decide (a2 = 0) then none else (K ((u64 (Int.tdiv i a2)), (Int.tmod i a2))))) else (bif decide (0 ≤ a2 ∧ a2 < 18446744073709551616) then (let t1 := (bits_LeadingZeros64 a2); bif decide ((u64 t1) < 0) then none else (let x2 := (Int.fdiv (u64 (a2 * (2 ^ (min (Int.toNat (u64 t1)) 64)))) 4294967296); let x3 := (andI .u64 (u64 (a2 * (2 ^ (min (Int.toNat (u64 t1)) 64)))) 4294967295); bif decide ((u64 t1) < 0) then none else (bif decide ((u64 (64 - (u64 t1))) < 0) then none else (let x5 := (orI .u64 (u64 (d * (2 ^ (min (Int.toNat (u64 t1)) 64)))) (Int.fdiv i (2 ^ (min (Int.toNat (u64 (64 - (u64 t1)))) 64)))); bif decide ((u64 t1) < 0) then none else (let x6 := (Int.fdiv (u64 (i * (2 ^ (min (Int.toNat (u64 t1)) 64)))) 4294967296); let x7 := (andI .u64 (u64 (i * (2 ^ (min (Int.toNat (u64 t1)) 64)))) 4294967295); bif decide (x2 = 0) then none else (bif decide (2147483648 ≤ x2 ∧ x2 < 4294967296 ∧ 0 ≤ (u64 (x5 - (u64 ((u64 (Int.tdiv x5 x2)) * x2)))) ∧ (u64 (x5 - (u64 ((u64 (Int.tdiv x5 x2)) * x2)))) < 4294967296) then (let t8 := (bits_Div64.fin17 ((u64 (a2 * (2 ^ (min (Int.toNat (u64 t1)) 64))))) ((u64 t1)) x2 x3 x5 x6 x7 ((u64 (Int.tdiv x5 x2)), (u64 (x5 - (u64 ((u64 (Int.tdiv x5 x2)) * x2)))))); let x9 := (u64 (t8.1 * (u64 (a2 * (2 ^ (min (Int.toNat (u64 t1)) 64)))))); bif decide (x2 = 0) then none else (let x10 := (u64 (Int.tdiv (u64 ((u64 ((u64 (x5 * 4294967296)) + x6)) - x9)) x2)); let x11 := (u64 ((u64 ((u64 ((u64 (x5 * 4294967296)) + x6)) - x9)) - (u64 (x10 * x2)))); bif decide (2147483648 ≤ x2 ∧ x2 < 4294967296 ∧ 0 ≤ x11 ∧ x11 < 4294967296) then (let t12 := (bits_Div64.fin24 ((u64 (a2 * (2 ^ (min (Int.toNat (u64 t1)) 64))))) ((u64 t1)) x2 x3 x5 x6 x7 t8.1 ((u64 ((u64 ((u64 (x5 * 4294967296)) + x6)) - x9))) (x11, x10)); bif decide ((u64 t1) < 0) then none else (K ((u64 ((u64 (t8.1 * 4294967296)) + t12.2)), (Int.fdiv (u64 ((u64 ((u64 ((u64 ((u64 ((u64 (x5 * 4294967296)) + x6)) - x9)) * 4294967296)) + x7)) - (u64 (t12.2 * (u64 (a2 * (2 ^ (min (Int.toNat (u64 t1)) 64)))))))) (2 ^ (min (Int.toNat (u64 t1)) 64)))))) else none)) else none)))))) else none)))
theorem bits_Div64.t_eq {ρ : Type} (d : Int) (i : Int) (a2 : Int) (hpre : (decide (0 ≤ d ∧ d < a2 ∧ a2 < 18446744073709551616 ∧ 0 ≤ i ∧ i < 18446744073709551616)) = true) (K : (Int × Int) → Option ρ) : bits_Div64.t d i a2 K = K (bits_Div64 d i a2) := cqF (by first | exact u64_neg _ | exact d64_c (d64_x2 hpre) (orI_rng _ _) | exact d64_c (d64_x2 hpre) (u64_rng _) | exact d64_x2_ne hpre | (simp only [decide_eq_true_eq, decide_eq_false_iff_not, beq_eq_false_iff_ne, ne_eq] at *; omega)) (fun h0 => cqF (by first | exact u64_neg _ | exact d64_c (d64_x2 hpre) (orI_rng _ _) | exact d64_c (d64_x2 hpre) (u64_rng _) | exact d64_x2_ne hpre | (simp only [decide_eq_true_eq, decide_eq_false_iff_not, beq_eq_false_iff_ne, ne_eq] at *; omega)) (fun h1 => cq (fun h2 => cqF (by first | exact u64_neg _ | exact d64_c (d64_x2 hpre) (orI_rng _ _) | exact d64_c (d64_x2 hpre) (u64_rng _) | exact d64_x2_ne hpre | (simp only [decide_eq_true_eq, decide_eq_false_iff_not, beq_eq_false_iff_ne, ne_eq] at *; omega)) (fun h3 => cqF (by first | exact u64_neg _ | exact d64_c (d64_x2 hpre) (orI_rng _ _) | exact d64_c (d64_x2 hpre) (u64_rng _) | exact d64_x2_ne hpre | (simp only [decide_eq_true_eq, decide_eq_false_iff_not, beq_eq_false_iff_ne, ne_eq] at *; omega)) (fun h4 => rfl))) (fun h2 => cqT (by first | exact u64_neg _ | exact d64_c (d64_x2 hpre) (orI_rng _ _) | exact d64_c (d64_x2 hpre) (u64_rng _) | exact d64_x2_ne hpre | (simp only [decide_eq_true_eq, decide_eq_false_iff_not, beq_eq_false_iff_ne, ne_eq] at *; omega)) (fun h3 => cqF (by first | exact u64_neg _ | exact d64_c (d64_x2 hpre) (orI_rng _ _) | exact d64_c (d64_x2 hpre) (u64_rng _) | exact d64_x2_ne hpre | (simp only [decide_eq_true_eq, decide_eq_false_iff_not, beq_eq_false_iff_ne, ne_eq] at *; omega)) (fun h4 => cqF (by first | exact u64_neg _ | exact d64_c (d64_x2 hpre) (orI_rng _ _) | exact d64_c (d64_x2 hpre) (u64_rng _) | exact d64_x2_ne hpre | (simp only [decide_eq_true_eq, decide_eq_false_iff_not, beq_eq_false_iff_ne, ne_eq] at *; omega)) (fun h5 => cqF (by first | exact u64_neg _ | exact d64_c (d64_x2 hpre) (orI_rng _ _) | exact d64_c (d64_x2 hpre) (u64_rng _) | exact d64_x2_ne hpre | (simp only [decide_eq_true_eq, decide_eq_false_iff_not, beq_eq_false_iff_ne, ne_eq] at *; omega)) (fun h6 => cqF (by first | exact u64_neg _ | exact d64_c (d64_x2 hpre) (orI_rng _ _) | exact d64_c (d64_x2 hpre) (u64_rng _) | exact d64_x2_ne hpre | (simp only [decide_eq_true_eq, decide_eq_false_iff_not, beq_eq_false_iff_ne, ne_eq] at *; omega)) (fun h7 => cqF (by first | exact u64_neg _ | exact d64_c (d64_x2 hpre) (orI_rng _ _) | exact d64_c (d64_x2 hpre) (u64_rng _) | exact d64_x2_ne hpre | (simp only [decide_eq_true_eq, decide_eq_false_iff_not, beq_eq_false_iff_ne, ne_eq] at *; omega)) (fun h8 => cqT (by first | exact u64_neg _ | exact d64_c (d64_x2 hpre) (orI_rng _ _) | exact d64_c (d64_x2 hpre) (u64_rng _) | exact d64_x2_ne hpre | (simp only [decide_eq_true_eq, decide_eq_false_iff_not, beq_eq_false_iff_ne, ne_eq] at *; omega)) (fun h9 => cqF (by first | exact u64_neg _ | exact d64_c (d64_x2 hpre) (orI_rng _ _) | exact d64_c (d64_x2 hpre) (u64_rng _) | exact d64_x2_ne hpre | (simp only [decide_eq_true_eq, decide_eq_false_iff_not, beq_eq_false_iff_ne, ne_eq] at *; omega)) (fun h10 => cqT (by first | exact u64_neg _ | exact d64_c (d64_x2 hpre) (orI_rng _ _) | exact d64_c (d64_x2 hpre) (u64_rng _) | exact d64_x2_ne hpre | (simp only [decide_eq_true_eq, decide_eq_false_iff_not, beq_eq_false_iff_ne, ne_eq] at *; omega)) (fun h11 => cqF (by first | exact u64_neg _ | exact d64_c (d64_x2 hpre) (orI_rng _ _) | exact d64_c (d64_x2 hpre) (u64_rng _) | exact d64_x2_ne hpre | (simp only [decide_eq_true_eq, decide_eq_false_iff_not, beq_eq_false_iff_ne, ne_eq] at *; omega)) (fun h12 => rfl)))))))))))))
theorem bits_Div64.gives (d : Int) (i : Int) (a2 : Int) (hpre : (decide (0 ≤ d ∧ d < a2 ∧ a2 < 18446744073709551616 ∧ 0 ≤ i ∧ i < 18446744073709551616)) = true) : GivesV Try.prog 170 [(cInt .u64).enc d, (cInt .u64).enc i, (cInt .u64).enc a2] ((cT2 (cInt .u64) (cInt .u64)).enc (bits_Div64 d i a2)) :=
  givesL hmix [bits_LeadingZeros64.e] 0 bits_Div64.ls (lam [bits_Div64.L17, bits_Div64.L24]) Try.func170 rfl rfl bits_Div64.lok ((by kernel_rfl : run1 Try.prog (tab [bits_LeadingZeros64.e]) 0 bits_Div64.ls (lam [bits_Div64.L17, bits_Div64.L24]) Try.f170 [(cInt .u64).enc d, (cInt .u64).enc i, (cInt .u64).enc a2] [] = bits_Div64.t d i a2 fun r => some ((cT2 (cInt .u64) (cInt .u64)).enc r, [])).trans (bits_Div64.t_eq d i a2 hpre _))
def bits_Div64.e : Entry Try.prog := entry3P (cInt .u64) (cInt .u64) (cInt .u64) (cT2 (cInt .u64) (cInt .u64)) 170 bits_Div64 (fun d i a2 => decide (0 ≤ d ∧ d < a2 ∧ a2 < 18446744073709551616 ∧ 0 ≤ i ∧ i < 18446744073709551616)) bits_Div64.gives

/-! ### impl.divided -/
def impl_divided.t {ρ : Type} (hi_0 : Int) (lo_1 : Int) (d : Int) (K : (Int × Int × Int) → Option ρ) : Option ρ := bif decide (d = 0) then none else (bif decide (d = 0) then none else (bif decide (0 ≤ (Int.tmod hi_0 d) ∧ (Int.tmod hi_0 d) < d ∧ d < 18446744073709551616 ∧ 0 ≤ lo_1 ∧ lo_1 < 18446744073709551616) then (let t1 := (bits_Div64 (Int.tmod hi_0 d) lo_1 d); K ((u64 (Int.tdiv hi_0 d)), t1.1, t1.2)) else none))
theorem impl_divided.t_eq {ρ : Type} (hi_0 : Int) (lo_1 : Int) (d : Int) (hpre : (decide (0 ≤ hi_0 ∧ hi_0 < 18446744073709551616 ∧ 0 ≤ lo_1 ∧ lo_1 < 18446744073709551616 ∧ 0 < d ∧ d < 18446744073709551616)) = true) (K : (Int × Int × Int) → Option ρ) : impl_divided.t hi_0 lo_1 d K = K (impl_divided hi_0 lo_1 d) := cqF (by first | exact pd_divided hpre | (simp only [decide_eq_true_eq, decide_eq_false_iff_not] at *; omega)) (fun h0 => cqF (by first | exact pd_divided hpre | (simp only [decide_eq_true_eq, decide_eq_false_iff_not] at *; omega)) (fun h1 => cqT (by first | exact pd_divided hpre | (simp only [decide_eq_true_eq, decide_eq_false_iff_not] at *; omega)) (fun h2 => rfl)))
theorem impl_divided.gives (hi_0 : Int) (lo_1 : Int) (d : Int) (hpre : (decide (0 ≤ hi_0 ∧ hi_0 < 18446744073709551616 ∧ 0 ≤ lo_1 ∧ lo_1 < 18446744073709551616 ∧ 0 < d ∧ d < 18446744073709551616)) = true) : GivesV Try.prog 165 [(cInt .u64).enc hi_0, (cInt .u64).enc lo_1, (cInt .u64).enc d] ((cT3 (cInt .u64) (cInt .u64) (cInt .u64)).enc (impl_divided hi_0 lo_1 d)) :=
  givesT hmix [bits_Div64.e] 0 none Try.func165 rfl rfl ((by kernel_rfl : run1 Try.prog (tab [bits_Div64.e]) 0 none noL Try.f165 [(cInt .u64).enc hi_0, (cInt .u64).enc lo_1, (cInt .u64).enc d] [] = impl_divided.t hi_0 lo_1 d fun r => some ((cT3 (cInt .u64) (cInt .u64) (cInt .u64)).enc r, [])).trans (impl_divided.t_eq hi_0 lo_1 d hpre _))
def impl_divided.e : Entry Try.prog := entry3P (cInt .u64) (cInt .u64) (cInt .u64) (cT3 (cInt .u64) (cInt .u64) (cInt .u64)) 165 impl_divided (fun hi_0 lo_1 d => decide (0 ≤ hi_0 ∧ hi_0 < 18446744073709551616 ∧ 0 ≤ lo_1 ∧ lo_1 < 18446744073709551616 ∧ 0 < d ∧ d < 18446744073709551616)) impl_divided.gives

/-! ### bits.Sub64 -/
def sub64E : Array Value → Sem Value := fun args => do
  let (x, y, b) ← Extern.MathBitsCarry.three "Sub64" args
  pure (Extern.MathBitsCarry.pair ((x + Extern.MathBitsCarry.m64 - y - b) % Extern.MathBitsCarry.m64) (if x < y + b then 1 else 0))
theorem bits_Sub64.ext (x y c : Int) (h : decide (0 ≤ c ∧ c ≤ 1) = true) (w : World) : (callFunc 171 #[.int .u64 x, .int .u64 y, .int .u64 c]).run Try.prog w = .ok (.value ((cT2 (cInt .u64) (cInt .u64)).enc (bits_Sub64 x y c))) w := by
  have hc : c = 0 ∨ c = 1 := by simp only [decide_eq_true_eq] at h; omega
  rcases hc with rfl | rfl <;> (rw [run_callFunc_extern Try.func171 (by kernel_rfl) (by kernel_rfl) (by kernel_rfl) (e := sub64E) (by kernel_rfl)]; rfl)
def bits_Sub64.e : Entry Try.prog := entryX3 (cInt .u64) (cInt .u64) (cInt .u64) (cT2 (cInt .u64) (cInt .u64)) 171 bits_Sub64 (fun x y c => decide (0 ≤ c ∧ c ≤ 1)) bits_Sub64.ext


/-! ### impl.Wide).negative -/
def impl_Wide_negative.t {ρ : Type} (w : Wd) (K : Wd → Option ρ) : Option ρ := let t1 := (bits_Sub64 0 w.lo 0); bif decide (0 ≤ t1.2 ∧ t1.2 ≤ 1) then (K (Wd.mk (w64 (bits_Sub64 0 (u64 w.hi) t1.2).1) t1.1)) else none
theorem impl_Wide_negative.t_eq {ρ : Type} (w : Wd) (K : Wd → Option ρ) : impl_Wide_negative.t w K = K (impl_Wide_negative w) := cqT (by exact sub64_borrow _ _ _) (fun h0 => rfl)
theorem impl_Wide_negative.gives (w : Wd) : GivesV Try.prog 166 [cWd.enc w] (cWd.enc (impl_Wide_negative w)) :=
  givesT hmix [bits_Sub64.e] 0 none Try.func166 rfl rfl ((by kernel_rfl : run1 Try.prog (tab [bits_Sub64.e]) 0 none noL Try.f166 [cWd.enc w] [] = impl_Wide_negative.t w fun r => some (cWd.enc r, [])).trans (impl_Wide_negative.t_eq w _))
def impl_Wide_negative.e : Entry Try.prog := entry1 cWd cWd 166 impl_Wide_negative impl_Wide_negative.gives

/-! ### bits.Add64 -/
theorem bits_Add64.ext (x y c : Int) (h : decide (0 ≤ c ∧ c ≤ 1) = true) (w : World) : (callFunc 167 #[.int .u64 x, .int .u64 y, .int .u64 c]).run Try.prog w = .ok (.value ((cT2 (cInt .u64) (cInt .u64)).enc (bits_Add64 x y c))) w := by
  have hc : c = 0 ∨ c = 1 := by simp only [decide_eq_true_eq] at h; omega
  rcases hc with rfl | rfl <;> (rw [run_callFunc_extern Try.func167 (by kernel_rfl) (by kernel_rfl) (by kernel_rfl) (e := add64Entry) (by kernel_rfl)]; rfl)
def bits_Add64.e : Entry Try.prog := entryX3 (cInt .u64) (cInt .u64) (cInt .u64) (cT2 (cInt .u64) (cInt .u64)) 167 bits_Add64 (fun x y c => decide (0 ≤ c ∧ c ≤ 1)) bits_Add64.ext


/-! ### impl.WideDiv -/
def impl_WideDiv.t {ρ : Type} (d : Wd) (i : Int) (K : (Wd × Int × Bool) → Option ρ) : Option ρ := bif decide (i ≤ 0) then (K ((Wd.mk 0 0), 0, false)) else (bif decide (d.hi ≥ 0) then (bif decide (0 ≤ (u64 d.hi) ∧ (u64 d.hi) < 18446744073709551616 ∧ 0 ≤ d.lo ∧ d.lo < 18446744073709551616 ∧ 0 < (u64 i) ∧ (u64 i) < 18446744073709551616) then (let t1 := (impl_divided (u64 d.hi) d.lo (u64 i)); K ((Wd.mk (w64 t1.1) t1.2.1), (w64 t1.2.2), true)) else none) else (let t2 := (impl_Wide_negative d); bif decide (0 ≤ (u64 t2.hi) ∧ (u64 t2.hi) < 18446744073709551616 ∧ 0 ≤ t2.lo ∧ t2.lo < 18446744073709551616 ∧ 0 < (u64 i) ∧ (u64 i) < 18446744073709551616) then (let t3 := (impl_divided (u64 t2.hi) t2.lo (u64 i)); bif (t3.2.2 == 0) then (K ((impl_Wide_negative (Wd.mk (w64 t3.1) t3.2.1)), 0, true)) else (let t5 := (bits_Add64 t3.2.1 1 0); K ((impl_Wide_negative (Wd.mk (w64 (u64 (t3.1 + t5.2))) t5.1)), (w64 (i - (w64 t3.2.2))), true))) else none))
theorem impl_WideDiv.t_eq {ρ : Type} (d : Wd) (i : Int) (hpre : (decide (0 ≤ d.lo ∧ d.lo < 18446744073709551616 ∧ i ≤ 9223372036854775807)) = true) (K : (Wd × Int × Bool) → Option ρ) : impl_WideDiv.t d i K = K (impl_WideDiv d i) := cq (fun h0 => rfl) (fun h0 => cq (fun h1 => cqT (by first | with_reducible exact pd_wd1 hpre h0 | with_reducible exact pd_wd2 hpre h0) (fun h2 => rfl)) (fun h1 => cqT (by first | with_reducible exact pd_wd1 hpre h0 | with_reducible exact pd_wd2 hpre h0) (fun h2 => cq (fun h3 => rfl) (fun h3 => rfl))))
theorem impl_WideDiv.gives (d : Wd) (i : Int) (hpre : (decide (0 ≤ d.lo ∧ d.lo < 18446744073709551616 ∧ i ≤ 9223372036854775807)) = true) : GivesV Try.prog 153 [cWd.enc d, (cInt .i64).enc i] ((cT3 cWd (cInt .i64) cBool).enc (impl_WideDiv d i)) :=
  givesT hmix [impl_divided.e, impl_Wide_negative.e, bits_Add64.e] 0 none Try.func153 rfl rfl ((by kernel_rfl : run1 Try.prog (tab [impl_divided.e, impl_Wide_negative.e, bits_Add64.e]) 0 none noL Try.f153 [cWd.enc d, (cInt .i64).enc i] [] = impl_WideDiv.t d i fun r => some ((cT3 cWd (cInt .i64) cBool).enc r, [])).trans (impl_WideDiv.t_eq d i hpre _))
def impl_WideDiv.e : Entry Try.prog := entry2P cWd (cInt .i64) (cT3 cWd (cInt .i64) cBool) 153 impl_WideDiv (fun d i => decide (0 ≤ d.lo ∧ d.lo < 18446744073709551616 ∧ i ≤ 9223372036854775807)) impl_WideDiv.gives

/-! ### impl.WideOf -/
def impl_WideOf.t {ρ : Type} (n : Int) (K : Wd → Option ρ) : Option ρ := K (Wd.mk (Int.fdiv n 9223372036854775808) (u64 n))
theorem impl_WideOf.t_eq {ρ : Type} (n : Int) (K : Wd → Option ρ) : impl_WideOf.t n K = K (impl_WideOf n) := rfl
theorem impl_WideOf.gives (n : Int) : GivesV Try.prog 169 [(cInt .i64).enc n] (cWd.enc (impl_WideOf n)) :=
  givesT hmix [] 0 none Try.func169 rfl rfl ((by kernel_rfl : run1 Try.prog (tab []) 0 none noL Try.f169 [(cInt .i64).enc n] [] = impl_WideOf.t n fun r => some (cWd.enc r, [])).trans (impl_WideOf.t_eq n _))
def impl_WideOf.e : Entry Try.prog := entry1 (cInt .i64) cWd 169 impl_WideOf impl_WideOf.gives

/-! ### impl.WideInt -/
def impl_WideInt.t {ρ : Type} (w : Wd) (K : (Int × Bool) → Option ρ) : Option ρ := let t1 := (impl_WideOf (w64 w.lo)); bif (!((t1.hi == w.hi) && (t1.lo == w.lo))) then (K (0, false)) else (K ((w64 w.lo), true))
theorem impl_WideInt.t_eq {ρ : Type} (w : Wd) (K : (Int × Bool) → Option ρ) : impl_WideInt.t w K = K (impl_WideInt w) := cq (fun h0 => rfl) (fun h0 => rfl)
theorem impl_WideInt.gives (w : Wd) : GivesV Try.prog 155 [cWd.enc w] ((cT2 (cInt .i64) cBool).enc (impl_WideInt w)) :=
  givesT hmix [impl_WideOf.e] 0 none Try.func155 rfl rfl ((by kernel_rfl : run1 Try.prog (tab [impl_WideOf.e]) 0 none noL Try.f155 [cWd.enc w] [] = impl_WideInt.t w fun r => some ((cT2 (cInt .i64) cBool).enc r, [])).trans (impl_WideInt.t_eq w _))
def impl_WideInt.e : Entry Try.prog := entry1 cWd (cT2 (cInt .i64) cBool) 155 impl_WideInt impl_WideInt.gives

/-! ### impl.MulDivFloor -/
def impl_MulDivFloor.t {ρ : Type} (a : Int) (b : Int) (d : Int) (K : (Int × Bool) → Option ρ) : Option ρ := let t1 := (impl_WideMul a b); bif decide (0 ≤ t1.lo ∧ t1.lo < 18446744073709551616 ∧ d ≤ 9223372036854775807) then (let t2 := (impl_WideDiv t1 d); bif (!t2.2.2) then (K (0, false)) else (let t3 := (impl_WideInt t2.1); K (t3.1, t3.2))) else none
theorem impl_MulDivFloor.t_eq {ρ : Type} (a : Int) (b : Int) (d : Int) (hpre : (decide (d ≤ 9223372036854775807)) = true) (K : (Int × Bool) → Option ρ) : impl_MulDivFloor.t a b d K = K (impl_MulDivFloor a b d) := cqT (by exact pd_mul hpre) (fun h0 => cq (fun h1 => rfl) (fun h1 => rfl))
theorem impl_MulDivFloor.gives (a : Int) (b : Int) (d : Int) (hpre : (decide (d ≤ 9223372036854775807)) = true) : GivesV Try.prog 122 [(cInt .i64).enc a, (cInt .i64).enc b, (cInt .i64).enc d] ((cT2 (cInt .i64) cBool).enc (impl_MulDivFloor a b d)) :=
  givesT hmix [impl_WideMul.e, impl_WideDiv.e, impl_WideInt.e] 0 none Try.func122 rfl rfl ((by kernel_rfl : run1 Try.prog (tab [impl_WideMul.e, impl_WideDiv.e, impl_WideInt.e]) 0 none noL Try.f122 [(cInt .i64).enc a, (cInt .i64).enc b, (cInt .i64).enc d] [] = impl_MulDivFloor.t a b d fun r => some ((cT2 (cInt .i64) cBool).enc r, [])).trans (impl_MulDivFloor.t_eq a b d hpre _))
def impl_MulDivFloor.e : Entry Try.prog := entry3P (cInt .i64) (cInt .i64) (cInt .i64) (cT2 (cInt .i64) cBool) 122 impl_MulDivFloor (fun a b d => decide (d ≤ 9223372036854775807)) impl_MulDivFloor.gives

/-! ### impl.mulDivCeil -/
def impl_mulDivCeil.t {ρ : Type} (a : Int) (b : Int) (d : Int) (K : (Int × Bool) → Option ρ) : Option ρ := let t1 := (impl_WideMul a b); bif decide (0 ≤ t1.lo ∧ t1.lo < 18446744073709551616 ∧ d ≤ 9223372036854775807) then (let t2 := (impl_WideDiv t1 d); bif (!t2.2.2) then (K (0, false)) else (let t3 := (impl_WideInt t2.1); bif (!t3.2) then (K (0, false)) else (bif decide (t2.2.1 > 0) then (bif (t3.1 == 9223372036854775807) then (K (0, false)) else (bif decide (t2.2.1 > 0) then (K ((w64 (t3.1 + 1)), true)) else (K (t3.1, true)))) else (bif decide (t2.2.1 > 0) then (K ((w64 (t3.1 + 1)), true)) else (K (t3.1, true)))))) else none
theorem impl_mulDivCeil.t_eq {ρ : Type} (a : Int) (b : Int) (d : Int) (hpre : (decide (d ≤ 9223372036854775807)) = true) (K : (Int × Bool) → Option ρ) : impl_mulDivCeil.t a b d K = K (impl_mulDivCeil a b d) := cqT (by exact pd_mul hpre) (fun h0 => cq (fun h1 => rfl) (fun h1 => cq (fun h2 => rfl) (fun h2 => cq (fun h3 => cq (fun h4 => rfl) (fun h4 => cq (fun h5 => rfl) (fun h5 => rfl))) (fun h3 => cq (fun h4 => rfl) (fun h4 => rfl)))))
theorem impl_mulDivCeil.gives (a : Int) (b : Int) (d : Int) (hpre : (decide (d ≤ 9223372036854775807)) = true) : GivesV Try.prog 125 [(cInt .i64).enc a, (cInt .i64).enc b, (cInt .i64).enc d] ((cT2 (cInt .i64) cBool).enc (impl_mulDivCeil a b d)) :=
  givesT hmix [impl_WideMul.e, impl_WideDiv.e, impl_WideInt.e] 0 none Try.func125 rfl rfl ((by kernel_rfl : run1 Try.prog (tab [impl_WideMul.e, impl_WideDiv.e, impl_WideInt.e]) 0 none noL Try.f125 [(cInt .i64).enc a, (cInt .i64).enc b, (cInt .i64).enc d] [] = impl_mulDivCeil.t a b d fun r => some ((cT2 (cInt .i64) cBool).enc r, [])).trans (impl_mulDivCeil.t_eq a b d hpre _))
def impl_mulDivCeil.e : Entry Try.prog := entry3P (cInt .i64) (cInt .i64) (cInt .i64) (cT2 (cInt .i64) cBool) 125 impl_mulDivCeil (fun a b d => decide (d ≤ 9223372036854775807)) impl_mulDivCeil.gives

/-! ### impl.UnitsOf -/
def impl_UnitsOf.t {ρ : Type} (x : Iv) (K : (Int × Int × Bool) → Option ρ) : Option ρ := bif (impl_IsWhole x) then (K (0, 0, false)) else (bif decide (x.lo > 0) then (bif decide (x.hi < 0) then (let t2 := (impl_MulDivFloor x.lo 966367641600000000 7244019458077122843); let t3 := (impl_mulDivCeil x.hi 966367641600000000 7244019458077122843); bif (!t2.2) then (K (0, 0, false)) else (bif (!t3.2) then (K (0, 0, false)) else (bif decide (t2.1 < (-36000000000)) then (K (0, 0, false)) else (bif decide (t3.1 > 36000000000) then (K (0, 0, false)) else (K (t2.1, t3.1, true)))))) else (let t4 := (impl_MulDivFloor x.lo 966367641600000000 7244019458077122843); let t5 := (impl_mulDivCeil x.hi 966367641600000000 7244019458077122842); bif (!t4.2) then (K (0, 0, false)) else (bif (!t5.2) then (K (0, 0, false)) else (bif decide (t4.1 < (-36000000000)) then (K (0, 0, false)) else (bif decide (t5.1 > 36000000000) then (K (0, 0, false)) else (K (t4.1, t5.1, true))))))) else (bif decide (x.hi < 0) then (let t6 := (impl_MulDivFloor x.lo 966367641600000000 7244019458077122842); let t7 := (impl_mulDivCeil x.hi 966367641600000000 7244019458077122843); bif (!t6.2) then (K (0, 0, false)) else (bif (!t7.2) then (K (0, 0, false)) else (bif decide (t6.1 < (-36000000000)) then (K (0, 0, false)) else (bif decide (t7.1 > 36000000000) then (K (0, 0, false)) else (K (t6.1, t7.1, true)))))) else (let t8 := (impl_MulDivFloor x.lo 966367641600000000 7244019458077122842); let t9 := (impl_mulDivCeil x.hi 966367641600000000 7244019458077122842); bif (!t8.2) then (K (0, 0, false)) else (bif (!t9.2) then (K (0, 0, false)) else (bif decide (t8.1 < (-36000000000)) then (K (0, 0, false)) else (bif decide (t9.1 > 36000000000) then (K (0, 0, false)) else (K (t8.1, t9.1, true))))))))
theorem impl_UnitsOf.t_eq {ρ : Type} (x : Iv) (K : (Int × Int × Bool) → Option ρ) : impl_UnitsOf.t x K = K (impl_UnitsOf x) := cq (fun h0 => rfl) (fun h0 => cq (fun h1 => cq (fun h2 => cq (fun h3 => rfl) (fun h3 => cq (fun h4 => rfl) (fun h4 => cq (fun h5 => rfl) (fun h5 => cq (fun h6 => rfl) (fun h6 => rfl))))) (fun h2 => cq (fun h3 => rfl) (fun h3 => cq (fun h4 => rfl) (fun h4 => cq (fun h5 => rfl) (fun h5 => cq (fun h6 => rfl) (fun h6 => rfl)))))) (fun h1 => cq (fun h2 => cq (fun h3 => rfl) (fun h3 => cq (fun h4 => rfl) (fun h4 => cq (fun h5 => rfl) (fun h5 => cq (fun h6 => rfl) (fun h6 => rfl))))) (fun h2 => cq (fun h3 => rfl) (fun h3 => cq (fun h4 => rfl) (fun h4 => cq (fun h5 => rfl) (fun h5 => cq (fun h6 => rfl) (fun h6 => rfl)))))))
theorem impl_UnitsOf.gives (x : Iv) : GivesV Try.prog 67 [cIv.enc x] ((cT3 (cInt .i64) (cInt .i64) cBool).enc (impl_UnitsOf x)) :=
  givesT hmix [impl_IsWhole.e, impl_MulDivFloor.e, impl_mulDivCeil.e] 0 none Try.func67 rfl rfl ((by kernel_rfl : run1 Try.prog (tab [impl_IsWhole.e, impl_MulDivFloor.e, impl_mulDivCeil.e]) 0 none noL Try.f67 [cIv.enc x] [] = impl_UnitsOf.t x fun r => some ((cT3 (cInt .i64) (cInt .i64) cBool).enc r, [])).trans (impl_UnitsOf.t_eq x _))
def impl_UnitsOf.e : Entry Try.prog := entry1 cIv (cT3 (cInt .i64) (cInt .i64) cBool) 67 impl_UnitsOf impl_UnitsOf.gives

/-! ### impl.WrapLon -/
def impl_WrapLon.t {ρ : Type} (n : Int) (K : Int → Option ρ) : Option ρ := bif decide ((Int.tmod n 3600000000) > 1800000000) then (K (w64 ((Int.tmod n 3600000000) - 3600000000))) else (bif decide ((Int.tmod n 3600000000) ≤ (-1800000000)) then (K (w64 ((Int.tmod n 3600000000) + 3600000000))) else (K (Int.tmod n 3600000000)))
theorem impl_WrapLon.t_eq {ρ : Type} (n : Int) (K : Int → Option ρ) : impl_WrapLon.t n K = K (impl_WrapLon n) := cq (fun h0 => rfl) (fun h0 => cq (fun h1 => rfl) (fun h1 => rfl))
theorem impl_WrapLon.gives (n : Int) : GivesV Try.prog 68 [(cInt .i64).enc n] ((cInt .i64).enc (impl_WrapLon n)) :=
  givesT hmix [] 0 none Try.func68 rfl rfl ((by kernel_rfl : run1 Try.prog (tab []) 0 none noL Try.f68 [(cInt .i64).enc n] [] = impl_WrapLon.t n fun r => some ((cInt .i64).enc r, [])).trans (impl_WrapLon.t_eq n _))
def impl_WrapLon.e : Entry Try.prog := entry1 (cInt .i64) (cInt .i64) 68 impl_WrapLon impl_WrapLon.gives

/-! ### impl.within -/
def impl_within.t {ρ : Type} (x : Int) (low : Int) (high : Int) (K : Bool → Option ρ) : Option ρ := bif decide (x ≥ low) then (K (decide (x ≤ high))) else (K false)
theorem impl_within.t_eq {ρ : Type} (x : Int) (low : Int) (high : Int) (K : Bool → Option ρ) : impl_within.t x low high K = K (impl_within x low high) := cq (fun h0 => rfl) (fun h0 => rfl)
theorem impl_within.gives (x : Int) (low : Int) (high : Int) : GivesV Try.prog 112 [(cInt .i64).enc x, (cInt .i64).enc low, (cInt .i64).enc high] (cBool.enc (impl_within x low high)) :=
  givesT hmix [] 0 none Try.func112 rfl rfl ((by kernel_rfl : run1 Try.prog (tab []) 0 none noL Try.f112 [(cInt .i64).enc x, (cInt .i64).enc low, (cInt .i64).enc high] [] = impl_within.t x low high fun r => some (cBool.enc r, [])).trans (impl_within.t_eq x low high _))
def impl_within.e : Entry Try.prog := entry3 (cInt .i64) (cInt .i64) (cInt .i64) cBool 112 impl_within impl_within.gives

/-! ### impl.ValidPoint -/
def impl_ValidPoint.t {ρ : Type} (p : Pt) (K : Bool → Option ρ) : Option ρ := bif (impl_within p.lat (-900000000) 900000000) then (bif decide (p.lon > (-1800000000)) then (K (decide (p.lon ≤ 1800000000))) else (K false)) else (K false)
theorem impl_ValidPoint.t_eq {ρ : Type} (p : Pt) (K : Bool → Option ρ) : impl_ValidPoint.t p K = K (impl_ValidPoint p) := cq (fun h0 => cq (fun h1 => rfl) (fun h1 => rfl)) (fun h0 => rfl)
theorem impl_ValidPoint.gives (p : Pt) : GivesV Try.prog 60 [cPt.enc p] (cBool.enc (impl_ValidPoint p)) :=
  givesT hmix [impl_within.e] 0 none Try.func60 rfl rfl ((by kernel_rfl : run1 Try.prog (tab [impl_within.e]) 0 none noL Try.f60 [cPt.enc p] [] = impl_ValidPoint.t p fun r => some (cBool.enc r, [])).trans (impl_ValidPoint.t_eq p _))
def impl_ValidPoint.e : Entry Try.prog := entry1 cPt cBool 60 impl_ValidPoint impl_ValidPoint.gives

/-! ### impl.MiddlePoint -/
def impl_MiddlePoint.t {ρ : Type} (lat : Iv) (lon : Iv) (K : (Pt × Int × Int) → Option ρ) : Option ρ := let t1 := (impl_UnitsOf lat); let t2 := (impl_UnitsOf lon); bif (!t1.2.2) then (K ((Pt.mk 0 0), 0, 9)) else (bif (!t2.2.2) then (K ((Pt.mk 0 0), 0, 9)) else (let t3 := (impl_WrapLon (Int.fdiv (w64 (t2.1 + t2.2.1)) 2)); bif (!(impl_ValidPoint (Pt.mk (Int.fdiv (w64 (t1.1 + t1.2.1)) 2) t3))) then (K ((Pt.mk 0 0), 0, 2)) else (K ((Pt.mk (Int.fdiv (w64 (t1.1 + t1.2.1)) 2) t3), (mxI (w64 (t1.2.1 - t1.1)) (w64 (t2.2.1 - t2.1))), 0))))
theorem impl_MiddlePoint.t_eq {ρ : Type} (lat : Iv) (lon : Iv) (K : (Pt × Int × Int) → Option ρ) : impl_MiddlePoint.t lat lon K = K (impl_MiddlePoint lat lon) := cq (fun h0 => rfl) (fun h0 => cq (fun h1 => rfl) (fun h1 => cq (fun h2 => rfl) (fun h2 => rfl)))
theorem impl_MiddlePoint.gives (lat : Iv) (lon : Iv) : GivesV Try.prog 27 [cIv.enc lat, cIv.enc lon] ((cT3 cPt (cInt .i64) (cInt .i64)).enc (impl_MiddlePoint lat lon)) :=
  givesT hmix [impl_UnitsOf.e, impl_WrapLon.e, impl_ValidPoint.e] 0 none Try.func27 rfl rfl ((by kernel_rfl : run1 Try.prog (tab [impl_UnitsOf.e, impl_WrapLon.e, impl_ValidPoint.e]) 0 none noL Try.f27 [cIv.enc lat, cIv.enc lon] [] = impl_MiddlePoint.t lat lon fun r => some ((cT3 cPt (cInt .i64) (cInt .i64)).enc r, [])).trans (impl_MiddlePoint.t_eq lat lon _))
def impl_MiddlePoint.e : Entry Try.prog := entry2 cIv cIv (cT3 cPt (cInt .i64) (cInt .i64)) 27 impl_MiddlePoint impl_MiddlePoint.gives

/-! ### laws.eqPoint -/
def laws_eqPoint.t {ρ : Type} (a : Pt) (b : Pt) (K : Bool → Option ρ) : Option ρ := bif (a.lat != b.lat) then (K false) else (bif (a.lon != b.lon) then (K false) else (K true))
theorem laws_eqPoint.t_eq {ρ : Type} (a : Pt) (b : Pt) (K : Bool → Option ρ) : laws_eqPoint.t a b K = K (laws_eqPoint a b) := cq (fun h0 => rfl) (fun h0 => cq (fun h1 => rfl) (fun h1 => rfl))
theorem laws_eqPoint.gives (a : Pt) (b : Pt) : GivesV Try.prog 28 [cPt.enc a, cPt.enc b] (cBool.enc (laws_eqPoint a b)) :=
  givesT hmix [] 0 none Try.func28 rfl rfl ((by kernel_rfl : run1 Try.prog (tab []) 0 none noL Try.f28 [cPt.enc a, cPt.enc b] [] = laws_eqPoint.t a b fun r => some (cBool.enc r, [])).trans (laws_eqPoint.t_eq a b _))
def laws_eqPoint.e : Entry Try.prog := entry2 cPt cPt cBool 28 laws_eqPoint laws_eqPoint.gives

/-! ### laws.FnExactMiddlePoint -/
def laws_FnExactMiddlePoint.t {ρ : Type} (aLat : Iv) (aLon : Iv) (K : Bool → Option ρ) : Option ρ := let t3 := (spec_MiddlePoint (laws_toInterval aLat) (laws_toInterval aLon)); let t6 := (impl_MiddlePoint (laws_toInterval aLat) (laws_toInterval aLon)); bif (!(laws_eqPoint t6.1 t3.1)) then (K false) else (bif (t6.2.1 != t3.2.1) then (K false) else (bif (t6.2.2 != t3.2.2) then (K false) else (K true)))
theorem laws_FnExactMiddlePoint.t_eq {ρ : Type} (aLat : Iv) (aLon : Iv) (K : Bool → Option ρ) : laws_FnExactMiddlePoint.t aLat aLon K = K (laws_FnExactMiddlePoint aLat aLon) := cq (fun h0 => rfl) (fun h0 => cq (fun h1 => rfl) (fun h1 => cq (fun h2 => rfl) (fun h2 => rfl)))
theorem laws_FnExactMiddlePoint.gives (aLat : Iv) (aLon : Iv) : GivesV Try.prog 7 [cIv.enc aLat, cIv.enc aLon] (cBool.enc (laws_FnExactMiddlePoint aLat aLon)) :=
  givesT hmix [laws_toInterval.e, spec_MiddlePoint.e, impl_MiddlePoint.e, laws_eqPoint.e] 0 none Try.func7 rfl rfl ((by kernel_rfl : run1 Try.prog (tab [laws_toInterval.e, spec_MiddlePoint.e, impl_MiddlePoint.e, laws_eqPoint.e]) 0 none noL Try.f7 [cIv.enc aLat, cIv.enc aLon] [] = laws_FnExactMiddlePoint.t aLat aLon fun r => some (cBool.enc r, [])).trans (laws_FnExactMiddlePoint.t_eq aLat aLon _))
def laws_FnExactMiddlePoint.e : Entry Try.prog := entry2 cIv cIv cBool 7 laws_FnExactMiddlePoint laws_FnExactMiddlePoint.gives

end Go.Proofs.Ytnlijdpmfdmfhaa
