/- The machine walks the functions that FnExactUniqueRoot reaches as the plain functions say. -/
import Derived.Test.YteeegpbikbghaaaProg
import Derived.Test.YteeegpbikbghaaaP20
set_option linter.unusedVariables false
set_option linter.unusedSimpArgs false
set_option maxRecDepth 100000
namespace Go.Proofs.Yteeegpbikbghaaa
open Go Go.RX Go.G880 Go.Proofs
theorem hmix : Try.prog.follows .mixedOrders = true := by kernel_rfl
/-! ### laws.szIntervalS -/
def laws_szIntervalS.t {ρ : Type} (a : List Value) (left : Int) (K : Int → Option ρ) : Option ρ := bif decide ((w64 (left - (a.length : Int))) < 0) then (K (-1)) else (K (w64 (left - (a.length : Int))))
theorem laws_szIntervalS.t_eq {ρ : Type} (a : List Value) (left : Int) (hpre : (decide ((a.length : Int) ≤ 9223372036854775807)) = true) (K : Int → Option ρ) : laws_szIntervalS.t a left K = K (laws_szIntervalS a left) := cq (fun h0 => rfl) (fun h0 => rfl)
theorem laws_szIntervalS.gives (a : List Value) (left : Int) (hpre : (decide ((a.length : Int) ≤ 9223372036854775807)) = true) : GivesA Try.prog 8 [(aL (.agg #[.int .i64 0, .int .i64 0]) 24).enc a, (aV (cInt .i64)).enc left] ((cInt .i64).enc (laws_szIntervalS a left)) :=
  givesA_L hmix [] 0 none noL Try.func8 rfl (fun _ _ => noL_ok) ((by kernel_rfl : run1 Try.prog (tab []) 0 none noL Try.f8 (argVals 0 [(aL (.agg #[.int .i64 0, .int .i64 0]) 24).enc a, (aV (cInt .i64)).enc left]) (argBlocks [(aL (.agg #[.int .i64 0, .int .i64 0]) 24).enc a, (aV (cInt .i64)).enc left]) = laws_szIntervalS.t a left fun r => some ((cInt .i64).enc r, argBlocks [(aL (.agg #[.int .i64 0, .int .i64 0]) 24).enc a, (aV (cInt .i64)).enc left])).trans (laws_szIntervalS.t_eq a left hpre _))
def laws_szIntervalS.e : Entry Try.prog := entryA2 (aL (.agg #[.int .i64 0, .int .i64 0]) 24) (aV (cInt .i64)) (cInt .i64) 8 laws_szIntervalS (fun a left => decide ((a.length : Int) ≤ 9223372036854775807)) (fun a left h => laws_szIntervalS.gives a left h)

/-! ### laws.toInterval -/
def laws_toInterval.t {ρ : Type} (a : Iv) (K : Iv → Option ρ) : Option ρ := K a
theorem laws_toInterval.t_eq {ρ : Type} (a : Iv) (K : Iv → Option ρ) : laws_toInterval.t a K = K (laws_toInterval a) := rfl
theorem laws_toInterval.gives (a : Iv) : GivesV Try.prog 11 [cIv.enc a] (cIv.enc (laws_toInterval a)) :=
  givesT hmix [] 0 none Try.func11 rfl rfl ((by kernel_rfl : run1 Try.prog (tab []) 0 none noL Try.f11 [cIv.enc a] [] = laws_toInterval.t a fun r => some (cIv.enc r, [])).trans (laws_toInterval.t_eq a _))
def laws_toInterval.e : Entry Try.prog := entry1 cIv cIv 11 laws_toInterval laws_toInterval.gives

/-! ### laws.toIntervalS -/
def laws_toIntervalS.ls : Option (List Nat) := some [0, 2, 3, 4]
def laws_toIntervalS.env3 (a : List Value) (v : Int × List Value) : Env := [(0, .slice (some ⟨0, 0, some 0⟩) 0 0), (2, .slice none 0 0), (3, .slice (some ⟨1, 0, some 0⟩) 0 0), (4, .int .i64 v.1)]
def laws_toIntervalS.heap3 (a : List Value) (v : Int × List Value) : LH := [(lstC a false (.agg #[.int .i64 0, .int .i64 0]), 24), (lstC v.2 true (.agg #[.int .i64 0, .int .i64 0]), 29)]
def laws_toIntervalS.L3 : LEntry := ⟨3, fun _ tm σ K => match tm, σ with
  | [(0, .slice (some ⟨0, 0, some 0⟩) 0 0), (2, .slice none 0 0), (3, .slice (some ⟨1, 0, some 0⟩) 0 0), (4, .int .i64 i)], [(⟨[.tuple ⟨a⟩, .bool false, .agg ⟨[.int .i64 0, .int .i64 0]⟩]⟩, 24), (⟨[.tuple ⟨out⟩, .bool true, .agg ⟨[.int .i64 0, .int .i64 0]⟩]⟩, 29)] => (match decide (0 ≤ i ∧ i ≤ (a.length : Int) ∧ (out.length : Int) = (a.length : Int) ∧ (a.length : Int) ≤ 1048576) with | true => K (.exit 0) (laws_toIntervalS.env3 a (laws_toIntervalS.fin3 a (i, out))) (laws_toIntervalS.heap3 a (laws_toIntervalS.fin3 a (i, out))) | false => none)
  | _, _ => none⟩
def laws_toIntervalS.lt3 {ρ : Type} (a : List Value) (i : Int) (out : List Value) (K : Sum (Int × List Value) (Int × List Value) → Option ρ) : Option ρ := bif decide (i < (a.length : Int)) then (bif decide (0 ≤ i ∧ i < (a.length : Int)) then (bif decide ((Int.toNat i) < a.length) then (let t1 := (laws_toInterval (atIv a false i)); bif decide (0 ≤ i ∧ i < (out.length : Int)) then (bif decide ((Int.toNat i) < out.length) then (K (Sum.inl ((w64 (i + 1)), (setR out (Int.toNat i) (Value.agg #[.int .i64 t1.lo, .int .i64 t1.hi]))))) else none) else none) else none) else none) else (K (Sum.inr (i, out)))
theorem laws_toIntervalS.lt3_eq {ρ : Type} (a : List Value) (i : Int) (out : List Value) (hpre : 0 ≤ i ∧ i ≤ (a.length : Int) ∧ (out.length : Int) = (a.length : Int) ∧ (a.length : Int) ≤ 1048576) (K : Sum (Int × List Value) (Int × List Value) → Option ρ) : laws_toIntervalS.lt3 a i out K = K (laws_toIntervalS.rnd3 a i out) := cq (fun h0 => cqT (by first | exact u64_neg _ | (simp only [decide_eq_true_eq, decide_eq_false_iff_not] at *; omega) | (simp only [Bool.not_eq_eq_eq_not, Bool.not_false, inside_iff, l00In_iff, decide_eq_true_eq, decide_eq_false_iff_not, w64_def, u64_def] at *; omega)) (fun h1 => cqT (by first | exact u64_neg _ | (simp only [decide_eq_true_eq, decide_eq_false_iff_not] at *; omega) | (simp only [Bool.not_eq_eq_eq_not, Bool.not_false, inside_iff, l00In_iff, decide_eq_true_eq, decide_eq_false_iff_not, w64_def, u64_def] at *; omega)) (fun h2 => cqT (by first | exact u64_neg _ | (simp only [decide_eq_true_eq, decide_eq_false_iff_not] at *; omega) | (simp only [Bool.not_eq_eq_eq_not, Bool.not_false, inside_iff, l00In_iff, decide_eq_true_eq, decide_eq_false_iff_not, w64_def, u64_def] at *; omega)) (fun h3 => cqT (by first | exact u64_neg _ | (simp only [decide_eq_true_eq, decide_eq_false_iff_not] at *; omega) | (simp only [Bool.not_eq_eq_eq_not, Bool.not_false, inside_iff, l00In_iff, decide_eq_true_eq, decide_eq_false_iff_not, w64_def, u64_def] at *; omega)) (fun h4 => rfl))))) (fun h0 => rfl)
theorem laws_toIntervalS.step3 (a : List Value) (i : Int) (out : List Value) (k : Nat) (R : Type) (K : LX → Env → LH → Option R) : loopN Try.prog 1 laws_toIntervalS.ls (k + 1) (exec Try.prog (tab (P := Try.prog) [laws_toInterval.e]) 1 23 0 laws_toIntervalS.ls (lam [laws_toIntervalS.L3]) (cOf Try.f10 0)) (laws_toIntervalS.env3 a (i, out)) (laws_toIntervalS.heap3 a (i, out)) K = laws_toIntervalS.lt3 a i out (sumK (fun v => loopN Try.prog 1 laws_toIntervalS.ls k (exec Try.prog (tab (P := Try.prog) [laws_toInterval.e]) 1 23 0 laws_toIntervalS.ls (lam [laws_toIntervalS.L3]) (cOf Try.f10 0)) (laws_toIntervalS.env3 a v) (laws_toIntervalS.heap3 a v) K) (fun v => K (.exit 0) (laws_toIntervalS.env3 a v) (laws_toIntervalS.heap3 a v))) := by kernel_rfl
theorem laws_toIntervalS.dec3 (a : List Value) (v : Int × List Value) (hv : 0 ≤ v.1 ∧ v.1 ≤ (a.length : Int) ∧ (v.2.length : Int) = (a.length : Int) ∧ (a.length : Int) ≤ 1048576) (v' : Int × List Value) (hr : laws_toIntervalS.rnd3 a v.1 v.2 = Sum.inl v') : (0 ≤ v'.1 ∧ v'.1 ≤ (a.length : Int) ∧ (v'.2.length : Int) = (a.length : Int) ∧ (a.length : Int) ≤ 1048576) ∧ ((a.length : Int) - v'.1).toNat < ((a.length : Int) - v.1).toNat := by
  exact dec_toS hv hr
theorem laws_toIntervalS.to3 : laws_toIntervalS.L3.Ok Try.prog (tab (P := Try.prog) [laws_toInterval.e]) 1 23 0 laws_toIntervalS.ls (lam [laws_toIntervalS.L3]) (cOf Try.f10 0) := by
  intro R tm σ K r h
  simp only [laws_toIntervalS.L3] at h
  split at h
  case h_2 => simp at h
  split at h
  case h_2 => simp at h
  rename_i i a out _ hc
  exact ⟨_, _, _, h, loop_to (x := 0) (rnd := (fun v : Int × List Value => laws_toIntervalS.rnd3 a v.1 v.2)) (env := fun v : Int × List Value => laws_toIntervalS.env3 a v) (heap := fun v : Int × List Value => laws_toIntervalS.heap3 a v) (Inv := (fun v : Int × List Value => 0 ≤ v.1 ∧ v.1 ≤ (a.length : Int) ∧ (v.2.length : Int) = (a.length : Int) ∧ (a.length : Int) ≤ 1048576)) (μ := (fun v : Int × List Value => ((a.length : Int) - v.1).toNat)) (fun v hv k R K => (laws_toIntervalS.step3 a v.1 v.2 k R K).trans (laws_toIntervalS.lt3_eq a v.1 v.2 hv (sumK (fun v => loopN Try.prog 1 laws_toIntervalS.ls k (exec Try.prog (tab (P := Try.prog) [laws_toInterval.e]) 1 23 0 laws_toIntervalS.ls (lam [laws_toIntervalS.L3]) (cOf Try.f10 0)) (laws_toIntervalS.env3 a v) (laws_toIntervalS.heap3 a v) K) (fun v => K (.exit 0) (laws_toIntervalS.env3 a v) (laws_toIntervalS.heap3 a v))))) (fun v hv v' hr => laws_toIntervalS.dec3 a v hv v' hr) 1048577 (i, out) (by have := of_decide_eq_true hc; first | exact this | (simp only []; exact this)) (by have := of_decide_eq_true hc; first | omega | (simp only []; omega))⟩
theorem laws_toIntervalS.lok : ∀ c, Try.f10.body = some c → LamOk Try.prog (tab (P := Try.prog) [laws_toInterval.e]) 1 Try.f10.ntmps 0 laws_toIntervalS.ls (lam [laws_toIntervalS.L3]) (loopsOf c) := by
  intro c hc
  have hb : loopsOf c = [(cOf Try.f10 0)] := by
    have h : loopsOf (Try.f10.body.getD .skip) = [(cOf Try.f10 0)] := by kernel_rfl
    rw [hc] at h
    exact h
  exact lam_ok1 hb laws_toIntervalS.to3
def laws_toIntervalS.t {ρ : Type} (a : List Value) (K : List Value → Option ρ) : Option ρ := bif decide ((a.length : Int) = (a.length : Int) ∧ 0 ≤ (a.length : Int) ∧ (a.length : Int) * ((16 : Nat) : Int) ≤ 281474976710656) then (bif decide (0 ≤ (0 : Int) ∧ (0 : Int) ≤ (a.length : Int) ∧ ((List.replicate (Int.toNat (a.length : Int)) (Value.agg #[.int .i64 0, .int .i64 0])).length : Int) = (a.length : Int) ∧ (a.length : Int) ≤ 1048576) then (K ((laws_toIntervalS.fin3 a (0, (List.replicate (Int.toNat (a.length : Int)) (Value.agg #[.int .i64 0, .int .i64 0])))).2)) else none) else none
theorem laws_toIntervalS.t_eq {ρ : Type} (a : List Value) (hpre : (decide ((a.length : Int) ≤ 1048576)) = true) (K : List Value → Option ρ) : laws_toIntervalS.t a K = K (laws_toIntervalS a) := cqT (by first | exact pd_toS1 hpre | exact pd_toS2 hpre) (fun h0 => cqT (by first | exact pd_toS1 hpre | exact pd_toS2 hpre) (fun h1 => rfl))
theorem laws_toIntervalS.gives (a : List Value) (hpre : (decide ((a.length : Int) ≤ 1048576)) = true) : GivesAR Try.prog 10 [(aL (.agg #[.int .i64 0, .int .i64 0]) 24).enc a] (.agg #[.int .i64 0, .int .i64 0]) 29 (laws_toIntervalS a) :=
  givesAR_L hmix [laws_toInterval.e] 0 laws_toIntervalS.ls (lam [laws_toIntervalS.L3]) Try.func10 rfl laws_toIntervalS.lok ((by kernel_rfl : runK Try.prog (tab [laws_toInterval.e]) 0 laws_toIntervalS.ls (lam [laws_toIntervalS.L3]) Try.f10 (argVals 0 [(aL (.agg #[.int .i64 0, .int .i64 0]) 24).enc a]) 1 (argBlocks [(aL (.agg #[.int .i64 0, .int .i64 0]) 24).enc a]) hdrBlk = laws_toIntervalS.t a fun r => some (lstC r true (.agg #[.int .i64 0, .int .i64 0]), 29)).trans (laws_toIntervalS.t_eq a hpre _))
def laws_toIntervalS.e : Entry Try.prog := entryAR1 (aL (.agg #[.int .i64 0, .int .i64 0]) 24) (.agg #[.int .i64 0, .int .i64 0]) 29 10 laws_toIntervalS (fun a => decide ((a.length : Int) ≤ 1048576)) (fun a h => laws_toIntervalS.gives a h)

/-! ### spec.l04Ok -/
def spec_l04Ok.t {ρ : Type} (a : Iv) (K : Bool → Option ρ) : Option ρ := bif decide ((-1152921504606846976) < a.lo) then (bif decide (a.lo ≤ a.hi) then (K (decide (a.hi < 1152921504606846976))) else (K false)) else (K false)
theorem spec_l04Ok.t_eq {ρ : Type} (a : Iv) (K : Bool → Option ρ) : spec_l04Ok.t a K = K (spec_l04Ok a) := cq (fun h0 => cq (fun h1 => rfl) (fun h1 => rfl)) (fun h0 => rfl)
theorem spec_l04Ok.gives (a : Iv) : GivesV Try.prog 26 [cIv.enc a] (cBool.enc (spec_l04Ok a)) :=
  givesT hmix [] 0 none Try.func26 rfl rfl ((by kernel_rfl : run1 Try.prog (tab []) 0 none noL Try.f26 [cIv.enc a] [] = spec_l04Ok.t a fun r => some (cBool.enc r, [])).trans (spec_l04Ok.t_eq a _))
def spec_l04Ok.e : Entry Try.prog := entry1 cIv cBool 26 spec_l04Ok spec_l04Ok.gives

/-! ### spec.l00In -/
def spec_l00In.t {ρ : Type} (n : Int) (low : Int) (high : Int) (K : Bool → Option ρ) : Option ρ := bif decide (n ≥ low) then (K (decide (n ≤ high))) else (K false)
theorem spec_l00In.t_eq {ρ : Type} (n : Int) (low : Int) (high : Int) (K : Bool → Option ρ) : spec_l00In.t n low high K = K (spec_l00In n low high) := cq (fun h0 => rfl) (fun h0 => rfl)
theorem spec_l00In.gives (n : Int) (low : Int) (high : Int) : GivesV Try.prog 48 [(cInt .i64).enc n, (cInt .i64).enc low, (cInt .i64).enc high] (cBool.enc (spec_l00In n low high)) :=
  givesT hmix [] 0 none Try.func48 rfl rfl ((by kernel_rfl : run1 Try.prog (tab []) 0 none noL Try.f48 [(cInt .i64).enc n, (cInt .i64).enc low, (cInt .i64).enc high] [] = spec_l00In.t n low high fun r => some (cBool.enc r, [])).trans (spec_l00In.t_eq n low high _))
def spec_l00In.e : Entry Try.prog := entry3 (cInt .i64) (cInt .i64) (cInt .i64) cBool 48 spec_l00In spec_l00In.gives

/-! ### spec.l09Ok -/
def spec_l09Ok.ls : Option (List Nat) := some [0, 2, 3]
def spec_l09Ok.env2 (list : List Value) (v : Int) : Env := [(0, .slice (some ⟨0, 0, some 0⟩) 0 0), (2, .bool false), (3, .int .i64 v)]
def spec_l09Ok.heap2 (list : List Value) (v : Int) : LH := [(lstC list false (.agg #[.int .i64 0, .int .i64 0]), 29)]
def spec_l09Ok.envQ2 (list : List Value) (v : Int × Bool) : Env := [(0, .slice (some ⟨0, 0, some 0⟩) 0 0), (2, .bool v.2), (3, .int .i64 v.1)]
def spec_l09Ok.heapQ2 (list : List Value) (v : Int × Bool) : LH := [(lstC list false (.agg #[.int .i64 0, .int .i64 0]), 29)]
def spec_l09Ok.L2 : LEntry := ⟨2, fun _ tm σ K => match tm, σ with
  | [(0, .slice (some ⟨0, 0, some 0⟩) 0 0), (2, .bool false), (3, .int .i64 i)], [(⟨[.tuple ⟨list⟩, .bool false, .agg ⟨[.int .i64 0, .int .i64 0]⟩]⟩, 29)] => (match decide (0 ≤ i ∧ i ≤ (list.length : Int) ∧ (list.length : Int) ≤ 1048576) with | true => caseR (fun v => K (.exit 0) (spec_l09Ok.env2 list v) (spec_l09Ok.heap2 list v)) (fun v => K .ret (spec_l09Ok.envQ2 list v) (spec_l09Ok.heapQ2 list v)) (spec_l09Ok.fin2 list i) | false => none)
  | _, _ => none⟩
def spec_l09Ok.lt2 {ρ : Type} (list : List Value) (i : Int) (K : Sum (Int) (Sum (Int) (Int × Bool)) → Option ρ) : Option ρ := bif decide (i < (list.length : Int)) then (bif decide (0 ≤ i ∧ i < (list.length : Int)) then (bif decide ((Int.toNat i) < list.length) then (bif (!(spec_l04Ok (atIv list false i))) then (K (Sum.inr (Sum.inr (i, false)))) else (K (Sum.inl (w64 (i + 1))))) else none) else none) else (K (Sum.inr (Sum.inl i)))
theorem spec_l09Ok.lt2_eq {ρ : Type} (list : List Value) (i : Int) (hpre : 0 ≤ i ∧ i ≤ (list.length : Int) ∧ (list.length : Int) ≤ 1048576) (K : Sum (Int) (Sum (Int) (Int × Bool)) → Option ρ) : spec_l09Ok.lt2 list i K = K (spec_l09Ok.rnd2 list i) := cq (fun h0 => cqT (by first | exact u64_neg _ | (simp only [decide_eq_true_eq, decide_eq_false_iff_not] at *; omega) | (simp only [Bool.not_eq_eq_eq_not, Bool.not_false, inside_iff, l00In_iff, decide_eq_true_eq, decide_eq_false_iff_not, w64_def, u64_def] at *; omega)) (fun h1 => cqT (by first | exact u64_neg _ | (simp only [decide_eq_true_eq, decide_eq_false_iff_not] at *; omega) | (simp only [Bool.not_eq_eq_eq_not, Bool.not_false, inside_iff, l00In_iff, decide_eq_true_eq, decide_eq_false_iff_not, w64_def, u64_def] at *; omega)) (fun h2 => cq (fun h3 => rfl) (fun h3 => rfl)))) (fun h0 => rfl)
theorem spec_l09Ok.step2 (list : List Value) (i : Int) (k : Nat) (R : Type) (K : LX → Env → LH → Option R) : loopN Try.prog 1 spec_l09Ok.ls (k + 1) (exec Try.prog (tab (P := Try.prog) [spec_l04Ok.e, spec_l00In.e]) 1 19 0 spec_l09Ok.ls (lam [spec_l09Ok.L2]) (cOf Try.f25 0)) (spec_l09Ok.env2 list i) (spec_l09Ok.heap2 list i) K = spec_l09Ok.lt2 list i (sumR (fun v => loopN Try.prog 1 spec_l09Ok.ls k (exec Try.prog (tab (P := Try.prog) [spec_l04Ok.e, spec_l00In.e]) 1 19 0 spec_l09Ok.ls (lam [spec_l09Ok.L2]) (cOf Try.f25 0)) (spec_l09Ok.env2 list v) (spec_l09Ok.heap2 list v) K) (fun v => K (.exit 0) (spec_l09Ok.env2 list v) (spec_l09Ok.heap2 list v)) (fun v => K .ret (spec_l09Ok.envQ2 list v) (spec_l09Ok.heapQ2 list v))) := by kernel_rfl
theorem spec_l09Ok.dec2 (list : List Value) (v : Int) (hv : 0 ≤ v ∧ v ≤ (list.length : Int) ∧ (list.length : Int) ≤ 1048576) (v' : Int) (hr : spec_l09Ok.rnd2 list v = Sum.inl v') : (0 ≤ v' ∧ v' ≤ (list.length : Int) ∧ (list.length : Int) ≤ 1048576) ∧ ((list.length : Int) - v').toNat < ((list.length : Int) - v).toNat := by
  exact dec_l09Ok hv hr
theorem spec_l09Ok.to2 : spec_l09Ok.L2.Ok Try.prog (tab (P := Try.prog) [spec_l04Ok.e, spec_l00In.e]) 1 19 0 spec_l09Ok.ls (lam [spec_l09Ok.L2]) (cOf Try.f25 0) := by
  intro R tm σ K r h
  simp only [spec_l09Ok.L2] at h
  split at h
  case h_2 => simp at h
  split at h
  case h_2 => simp at h
  rename_i i list _ hc
  exact caseR_ok h (loop_toR (x := 0) (rnd := (fun v : Int => spec_l09Ok.rnd2 list v)) (env := fun v : Int => spec_l09Ok.env2 list v) (heap := fun v : Int => spec_l09Ok.heap2 list v) (envQ := fun v => spec_l09Ok.envQ2 list v) (heapQ := fun v => spec_l09Ok.heapQ2 list v) (Inv := (fun v : Int => 0 ≤ v ∧ v ≤ (list.length : Int) ∧ (list.length : Int) ≤ 1048576)) (μ := (fun v : Int => ((list.length : Int) - v).toNat)) (fun v hv k R K => (spec_l09Ok.step2 list v k R K).trans (spec_l09Ok.lt2_eq list v hv (sumR (fun v => loopN Try.prog 1 spec_l09Ok.ls k (exec Try.prog (tab (P := Try.prog) [spec_l04Ok.e, spec_l00In.e]) 1 19 0 spec_l09Ok.ls (lam [spec_l09Ok.L2]) (cOf Try.f25 0)) (spec_l09Ok.env2 list v) (spec_l09Ok.heap2 list v) K) (fun v => K (.exit 0) (spec_l09Ok.env2 list v) (spec_l09Ok.heap2 list v)) (fun v => K .ret (spec_l09Ok.envQ2 list v) (spec_l09Ok.heapQ2 list v))))) (fun v hv v' hr => spec_l09Ok.dec2 list v hv v' hr) 1048577 i (by have := of_decide_eq_true hc; first | exact this | (simp only []; exact this)) (by have := of_decide_eq_true hc; first | omega | (simp only []; omega)))
theorem spec_l09Ok.lok : ∀ c, Try.f25.body = some c → LamOk Try.prog (tab (P := Try.prog) [spec_l04Ok.e, spec_l00In.e]) 1 Try.f25.ntmps 0 spec_l09Ok.ls (lam [spec_l09Ok.L2]) (loopsOf c) := by
  intro c hc
  have hb : loopsOf c = [(cOf Try.f25 0)] := by
    have h : loopsOf (Try.f25.body.getD .skip) = [(cOf Try.f25 0)] := by kernel_rfl
    rw [hc] at h
    exact h
  exact lam_ok1 hb spec_l09Ok.to2
def spec_l09Ok.t {ρ : Type} (list : List Value) (K : Bool → Option ρ) : Option ρ := bif decide (0 ≤ (0 : Int) ∧ (0 : Int) ≤ (list.length : Int) ∧ (list.length : Int) ≤ 1048576) then (caseR (fun t1 => K (spec_l00In (list.length : Int) 1 17)) (fun t2 => K t2.2) (spec_l09Ok.fin2 list 0)) else none
theorem spec_l09Ok.t_eq {ρ : Type} (list : List Value) (hpre : (decide ((list.length : Int) ≤ 1048576)) = true) (K : Bool → Option ρ) : spec_l09Ok.t list K = K (spec_l09Ok list) := cqT (by first | exact u64_neg _ | (simp only [decide_eq_true_eq, decide_eq_false_iff_not] at *; omega) | (simp only [Bool.not_eq_eq_eq_not, Bool.not_false, inside_iff, l00In_iff, decide_eq_true_eq, decide_eq_false_iff_not, w64_def, u64_def] at *; omega)) (fun h0 => cqS (fun t1 => rfl) (fun t2 => rfl))
theorem spec_l09Ok.gives (list : List Value) (hpre : (decide ((list.length : Int) ≤ 1048576)) = true) : GivesA Try.prog 25 [(aL (.agg #[.int .i64 0, .int .i64 0]) 29).enc list] (cBool.enc (spec_l09Ok list)) :=
  givesA_L hmix [spec_l04Ok.e, spec_l00In.e] 0 spec_l09Ok.ls (lam [spec_l09Ok.L2]) Try.func25 rfl spec_l09Ok.lok ((by kernel_rfl : run1 Try.prog (tab [spec_l04Ok.e, spec_l00In.e]) 0 spec_l09Ok.ls (lam [spec_l09Ok.L2]) Try.f25 (argVals 0 [(aL (.agg #[.int .i64 0, .int .i64 0]) 29).enc list]) (argBlocks [(aL (.agg #[.int .i64 0, .int .i64 0]) 29).enc list]) = spec_l09Ok.t list fun r => some (cBool.enc r, argBlocks [(aL (.agg #[.int .i64 0, .int .i64 0]) 29).enc list])).trans (spec_l09Ok.t_eq list hpre _))
def spec_l09Ok.e : Entry Try.prog := entryA1 (aL (.agg #[.int .i64 0, .int .i64 0]) 29) cBool 25 spec_l09Ok (fun list => decide ((list.length : Int) ≤ 1048576)) (fun list h => spec_l09Ok.gives list h)

/-! ### spec.l04Whole -/
def spec_l04Whole.t {ρ : Type} (K : Iv → Option ρ) : Option ρ := K (Iv.mk (-1152921504606846976) 1152921504606846976)
theorem spec_l04Whole.t_eq {ρ : Type} (K : Iv → Option ρ) : spec_l04Whole.t K = K spec_l04Whole := rfl
theorem spec_l04Whole.gives : GivesV Try.prog 54 [] (cIv.enc spec_l04Whole) :=
  givesT hmix [] 0 none Try.func54 rfl rfl ((by kernel_rfl : run1 Try.prog (tab []) 0 none noL Try.f54 [] [] = spec_l04Whole.t fun r => some (cIv.enc r, [])).trans (spec_l04Whole.t_eq _))
def spec_l04Whole.e : Entry Try.prog := entry0 cIv 54 spec_l04Whole spec_l04Whole.gives

/-! ### spec.l04Make -/
def spec_l04Make.t {ρ : Type} (lo_0 : Int) (hi_1 : Int) (K : Iv → Option ρ) : Option ρ := bif (!(spec_l04Ok (Iv.mk lo_0 hi_1))) then (K spec_l04Whole) else (K (Iv.mk lo_0 hi_1))
theorem spec_l04Make.t_eq {ρ : Type} (lo_0 : Int) (hi_1 : Int) (K : Iv → Option ρ) : spec_l04Make.t lo_0 hi_1 K = K (spec_l04Make lo_0 hi_1) := cq (fun h0 => rfl) (fun h0 => rfl)
theorem spec_l04Make.gives (lo_0 : Int) (hi_1 : Int) : GivesV Try.prog 55 [(cInt .i64).enc lo_0, (cInt .i64).enc hi_1] (cIv.enc (spec_l04Make lo_0 hi_1)) :=
  givesT hmix [spec_l04Ok.e, spec_l04Whole.e] 0 none Try.func55 rfl rfl ((by kernel_rfl : run1 Try.prog (tab [spec_l04Ok.e, spec_l04Whole.e]) 0 none noL Try.f55 [(cInt .i64).enc lo_0, (cInt .i64).enc hi_1] [] = spec_l04Make.t lo_0 hi_1 fun r => some (cIv.enc r, [])).trans (spec_l04Make.t_eq lo_0 hi_1 _))
def spec_l04Make.e : Entry Try.prog := entry2 (cInt .i64) (cInt .i64) cIv 55 spec_l04Make spec_l04Make.gives

/-! ### spec.Integer -/
def spec_Integer.t {ρ : Type} (n : Int) (K : Iv → Option ρ) : Option ρ := bif (!(spec_l00In n (-268435455) 268435455)) then (K spec_l04Whole) else (K (spec_l04Make (w64 (n * 4294967296)) (w64 (n * 4294967296))))
theorem spec_Integer.t_eq {ρ : Type} (n : Int) (K : Iv → Option ρ) : spec_Integer.t n K = K (spec_Integer n) := cq (fun h0 => rfl) (fun h0 => rfl)
theorem spec_Integer.gives (n : Int) : GivesV Try.prog 31 [(cInt .i64).enc n] (cIv.enc (spec_Integer n)) :=
  givesT hmix [spec_l00In.e, spec_l04Whole.e, spec_l04Make.e] 0 none Try.func31 rfl rfl ((by kernel_rfl : run1 Try.prog (tab [spec_l00In.e, spec_l04Whole.e, spec_l04Make.e]) 0 none noL Try.f31 [(cInt .i64).enc n] [] = spec_Integer.t n fun r => some (cIv.enc r, [])).trans (spec_Integer.t_eq n _))
def spec_Integer.e : Entry Try.prog := entry1 (cInt .i64) cIv 31 spec_Integer spec_Integer.gives

/-! ### spec.l03Ok -/
def spec_l03Ok.t {ρ : Type} (n : Int) (K : Bool → Option ρ) : Option ρ := K (spec_l00In n (-1152921504606846976) 1152921504606846976)
theorem spec_l03Ok.t_eq {ρ : Type} (n : Int) (K : Bool → Option ρ) : spec_l03Ok.t n K = K (spec_l03Ok n) := rfl
theorem spec_l03Ok.gives (n : Int) : GivesV Try.prog 76 [(cInt .i64).enc n] (cBool.enc (spec_l03Ok n)) :=
  givesT hmix [spec_l00In.e] 0 none Try.func76 rfl rfl ((by kernel_rfl : run1 Try.prog (tab [spec_l00In.e]) 0 none noL Try.f76 [(cInt .i64).enc n] [] = spec_l03Ok.t n fun r => some (cBool.enc r, [])).trans (spec_l03Ok.t_eq n _))
def spec_l03Ok.e : Entry Try.prog := entry1 (cInt .i64) cBool 76 spec_l03Ok spec_l03Ok.gives

/-! ### spec.l02Size -/
def spec_l02Size.t {ρ : Type} (n : Int) (K : Int → Option ρ) : Option ρ := bif decide (n < 0) then (K (u64 (0 - (u64 n)))) else (K (u64 n))
theorem spec_l02Size.t_eq {ρ : Type} (n : Int) (K : Int → Option ρ) : spec_l02Size.t n K = K (spec_l02Size n) := cq (fun h0 => rfl) (fun h0 => rfl)
theorem spec_l02Size.gives (n : Int) : GivesV Try.prog 94 [(cInt .i64).enc n] ((cInt .u64).enc (spec_l02Size n)) :=
  givesT hmix [] 0 none Try.func94 rfl rfl ((by kernel_rfl : run1 Try.prog (tab []) 0 none noL Try.f94 [(cInt .i64).enc n] [] = spec_l02Size.t n fun r => some ((cInt .u64).enc r, [])).trans (spec_l02Size.t_eq n _))
def spec_l02Size.e : Entry Try.prog := entry1 (cInt .i64) (cInt .u64) 94 spec_l02Size spec_l02Size.gives

/-! ### spec.l02Times -/
def spec_l02Times.t {ρ : Type} (a : Int) (b : Int) (K : (Int × Int) → Option ρ) : Option ρ := let x2 := (u64 ((u64 ((Int.fdiv a 4294967296) * (andI .u64 b 4294967295))) + (Int.fdiv (u64 ((andI .u64 a 4294967295) * (andI .u64 b 4294967295))) 4294967296))); K ((u64 ((u64 ((u64 ((Int.fdiv a 4294967296) * (Int.fdiv b 4294967296))) + (Int.fdiv x2 4294967296))) + (Int.fdiv (u64 ((u64 ((andI .u64 a 4294967295) * (Int.fdiv b 4294967296))) + (andI .u64 x2 4294967295))) 4294967296))), (u64 (a * b)))
theorem spec_l02Times.t_eq {ρ : Type} (a : Int) (b : Int) (K : (Int × Int) → Option ρ) : spec_l02Times.t a b K = K (spec_l02Times a b) := rfl
theorem spec_l02Times.gives (a : Int) (b : Int) : GivesV Try.prog 93 [(cInt .u64).enc a, (cInt .u64).enc b] ((cT2 (cInt .u64) (cInt .u64)).enc (spec_l02Times a b)) :=
  givesT hmix [] 0 none Try.func93 rfl rfl ((by kernel_rfl : run1 Try.prog (tab []) 0 none noL Try.f93 [(cInt .u64).enc a, (cInt .u64).enc b] [] = spec_l02Times.t a b fun r => some ((cT2 (cInt .u64) (cInt .u64)).enc r, [])).trans (spec_l02Times.t_eq a b _))
def spec_l02Times.e : Entry Try.prog := entry2 (cInt .u64) (cInt .u64) (cT2 (cInt .u64) (cInt .u64)) 93 spec_l02Times spec_l02Times.gives

/-! ### spec.l02Minus -/
def spec_l02Minus.t {ρ : Type} (w : Wd) (K : Wd → Option ρ) : Option ρ := bif (w.lo == 0) then (K (Wd.mk (w64 (0 - w.hi)) (u64 (0 - w.lo)))) else (K (Wd.mk (xorI .i64 (-1) w.hi) (u64 (0 - w.lo))))
theorem spec_l02Minus.t_eq {ρ : Type} (w : Wd) (K : Wd → Option ρ) : spec_l02Minus.t w K = K (spec_l02Minus w) := cq (fun h0 => rfl) (fun h0 => rfl)
theorem spec_l02Minus.gives (w : Wd) : GivesV Try.prog 95 [cWd.enc w] (cWd.enc (spec_l02Minus w)) :=
  givesT hmix [] 0 none Try.func95 rfl rfl ((by kernel_rfl : run1 Try.prog (tab []) 0 none noL Try.f95 [cWd.enc w] [] = spec_l02Minus.t w fun r => some (cWd.enc r, [])).trans (spec_l02Minus.t_eq w _))
def spec_l02Minus.e : Entry Try.prog := entry1 cWd cWd 95 spec_l02Minus spec_l02Minus.gives

/-! ### spec.l02Mul -/
def spec_l02Mul.t {ρ : Type} (a : Int) (b : Int) (K : Wd → Option ρ) : Option ρ := let t3 := (spec_l02Times (spec_l02Size a) (spec_l02Size b)); bif (!(decide (a < 0) == decide (b < 0))) then (K (spec_l02Minus (Wd.mk (w64 t3.1) t3.2))) else (K (Wd.mk (w64 t3.1) t3.2))
theorem spec_l02Mul.t_eq {ρ : Type} (a : Int) (b : Int) (K : Wd → Option ρ) : spec_l02Mul.t a b K = K (spec_l02Mul a b) := cq (fun h0 => rfl) (fun h0 => rfl)
theorem spec_l02Mul.gives (a : Int) (b : Int) : GivesV Try.prog 87 [(cInt .i64).enc a, (cInt .i64).enc b] (cWd.enc (spec_l02Mul a b)) :=
  givesT hmix [spec_l02Size.e, spec_l02Times.e, spec_l02Minus.e] 0 none Try.func87 rfl rfl ((by kernel_rfl : run1 Try.prog (tab [spec_l02Size.e, spec_l02Times.e, spec_l02Minus.e]) 0 none noL Try.f87 [(cInt .i64).enc a, (cInt .i64).enc b] [] = spec_l02Mul.t a b fun r => some (cWd.enc r, [])).trans (spec_l02Mul.t_eq a b _))
def spec_l02Mul.e : Entry Try.prog := entry2 (cInt .i64) (cInt .i64) cWd 87 spec_l02Mul spec_l02Mul.gives

/-! ### spec.l02Shift -/
def spec_l02Shift.t {ρ : Type} (w : Wd) (n : Int) (K : Wd → Option ρ) : Option ρ := bif (n == 0) then (K w) else (bif decide (n < 64) then (bif decide ((u64 n) < 0) then none else (bif decide ((u64 n) < 0) then none else (bif decide ((u64 (w64 (64 - n))) < 0) then none else (K (Wd.mk (Int.fdiv w.hi (2 ^ (min (Int.toNat (u64 n)) 64))) (orI .u64 (Int.fdiv w.lo (2 ^ (min (Int.toNat (u64 n)) 64))) (u64 ((u64 w.hi) * (2 ^ (min (Int.toNat (u64 (w64 (64 - n)))) 64)))))))))) else (bif decide ((u64 (w64 (n - 64))) < 0) then none else (K (Wd.mk (Int.fdiv w.hi 9223372036854775808) (u64 (Int.fdiv w.hi (2 ^ (min (Int.toNat (u64 (w64 (n - 64)))) 64))))))))
theorem spec_l02Shift.t_eq {ρ : Type} (w : Wd) (n : Int) (K : Wd → Option ρ) : spec_l02Shift.t w n K = K (spec_l02Shift w n) := cq (fun h0 => rfl) (fun h0 => cq (fun h1 => cqF (by first | exact u64_neg _ | (simp only [decide_eq_true_eq, decide_eq_false_iff_not] at *; omega) | (simp only [Bool.not_eq_eq_eq_not, Bool.not_false, inside_iff, l00In_iff, decide_eq_true_eq, decide_eq_false_iff_not, w64_def, u64_def] at *; omega)) (fun h2 => cqF (by first | exact u64_neg _ | (simp only [decide_eq_true_eq, decide_eq_false_iff_not] at *; omega) | (simp only [Bool.not_eq_eq_eq_not, Bool.not_false, inside_iff, l00In_iff, decide_eq_true_eq, decide_eq_false_iff_not, w64_def, u64_def] at *; omega)) (fun h3 => cqF (by first | exact u64_neg _ | (simp only [decide_eq_true_eq, decide_eq_false_iff_not] at *; omega) | (simp only [Bool.not_eq_eq_eq_not, Bool.not_false, inside_iff, l00In_iff, decide_eq_true_eq, decide_eq_false_iff_not, w64_def, u64_def] at *; omega)) (fun h4 => rfl)))) (fun h1 => cqF (by first | exact u64_neg _ | (simp only [decide_eq_true_eq, decide_eq_false_iff_not] at *; omega) | (simp only [Bool.not_eq_eq_eq_not, Bool.not_false, inside_iff, l00In_iff, decide_eq_true_eq, decide_eq_false_iff_not, w64_def, u64_def] at *; omega)) (fun h2 => rfl)))
theorem spec_l02Shift.gives (w : Wd) (n : Int) : GivesV Try.prog 86 [cWd.enc w, (cInt .i64).enc n] (cWd.enc (spec_l02Shift w n)) :=
  givesT hmix [] 0 none Try.func86 rfl rfl ((by kernel_rfl : run1 Try.prog (tab []) 0 none noL Try.f86 [cWd.enc w, (cInt .i64).enc n] [] = spec_l02Shift.t w n fun r => some (cWd.enc r, [])).trans (spec_l02Shift.t_eq w n _))
def spec_l02Shift.e : Entry Try.prog := entry2 cWd (cInt .i64) cWd 86 spec_l02Shift spec_l02Shift.gives

/-! ### spec.l02Of -/
def spec_l02Of.t {ρ : Type} (n : Int) (K : Wd → Option ρ) : Option ρ := bif decide (n < 0) then (K (Wd.mk (-1) (u64 n))) else (K (Wd.mk 0 (u64 n)))
theorem spec_l02Of.t_eq {ρ : Type} (n : Int) (K : Wd → Option ρ) : spec_l02Of.t n K = K (spec_l02Of n) := cq (fun h0 => rfl) (fun h0 => rfl)
theorem spec_l02Of.gives (n : Int) : GivesV Try.prog 92 [(cInt .i64).enc n] (cWd.enc (spec_l02Of n)) :=
  givesT hmix [] 0 none Try.func92 rfl rfl ((by kernel_rfl : run1 Try.prog (tab []) 0 none noL Try.f92 [(cInt .i64).enc n] [] = spec_l02Of.t n fun r => some (cWd.enc r, [])).trans (spec_l02Of.t_eq n _))
def spec_l02Of.e : Entry Try.prog := entry1 (cInt .i64) cWd 92 spec_l02Of spec_l02Of.gives

/-! ### spec.l02Int -/
def spec_l02Int.t {ρ : Type} (w : Wd) (K : (Int × Bool) → Option ρ) : Option ρ := let t1 := (spec_l02Of (w64 w.lo)); bif (!((t1.hi == w.hi) && (t1.lo == w.lo))) then (K (0, false)) else (K ((w64 w.lo), true))
theorem spec_l02Int.t_eq {ρ : Type} (w : Wd) (K : (Int × Bool) → Option ρ) : spec_l02Int.t w K = K (spec_l02Int w) := cq (fun h0 => rfl) (fun h0 => rfl)
theorem spec_l02Int.gives (w : Wd) : GivesV Try.prog 85 [cWd.enc w] ((cT2 (cInt .i64) cBool).enc (spec_l02Int w)) :=
  givesT hmix [spec_l02Of.e] 0 none Try.func85 rfl rfl ((by kernel_rfl : run1 Try.prog (tab [spec_l02Of.e]) 0 none noL Try.f85 [cWd.enc w] [] = spec_l02Int.t w fun r => some ((cT2 (cInt .i64) cBool).enc r, [])).trans (spec_l02Int.t_eq w _))
def spec_l02Int.e : Entry Try.prog := entry1 cWd (cT2 (cInt .i64) cBool) 85 spec_l02Int spec_l02Int.gives

/-! ### spec.MulFloor -/
def spec_MulFloor.t {ρ : Type} (a : Int) (b : Int) (shift : Int) (K : (Int × Bool) → Option ρ) : Option ρ := bif (!(spec_l00In shift 0 126)) then (K (0, false)) else (let t4 := (spec_l02Int (spec_l02Shift (spec_l02Mul a b) shift)); K (t4.1, t4.2))
theorem spec_MulFloor.t_eq {ρ : Type} (a : Int) (b : Int) (shift : Int) (K : (Int × Bool) → Option ρ) : spec_MulFloor.t a b shift K = K (spec_MulFloor a b shift) := cq (fun h0 => rfl) (fun h0 => rfl)
theorem spec_MulFloor.gives (a : Int) (b : Int) (shift : Int) : GivesV Try.prog 77 [(cInt .i64).enc a, (cInt .i64).enc b, (cInt .i64).enc shift] ((cT2 (cInt .i64) cBool).enc (spec_MulFloor a b shift)) :=
  givesT hmix [spec_l00In.e, spec_l02Mul.e, spec_l02Shift.e, spec_l02Int.e] 0 none Try.func77 rfl rfl ((by kernel_rfl : run1 Try.prog (tab [spec_l00In.e, spec_l02Mul.e, spec_l02Shift.e, spec_l02Int.e]) 0 none noL Try.f77 [(cInt .i64).enc a, (cInt .i64).enc b, (cInt .i64).enc shift] [] = spec_MulFloor.t a b shift fun r => some ((cT2 (cInt .i64) cBool).enc r, [])).trans (spec_MulFloor.t_eq a b shift _))
def spec_MulFloor.e : Entry Try.prog := entry3 (cInt .i64) (cInt .i64) (cInt .i64) (cT2 (cInt .i64) cBool) 77 spec_MulFloor spec_MulFloor.gives

/-! ### spec.l03End -/
def spec_l03End.t {ρ : Type} (n : Int) (ok : Bool) (K : (Int × Bool) → Option ρ) : Option ρ := bif (!ok) then (K (0, false)) else (bif (!(spec_l03Ok n)) then (K (0, false)) else (K (n, true)))
theorem spec_l03End.t_eq {ρ : Type} (n : Int) (ok : Bool) (K : (Int × Bool) → Option ρ) : spec_l03End.t n ok K = K (spec_l03End n ok) := cq (fun h0 => rfl) (fun h0 => cq (fun h1 => rfl) (fun h1 => rfl))
theorem spec_l03End.gives (n : Int) (ok : Bool) : GivesV Try.prog 78 [(cInt .i64).enc n, cBool.enc ok] ((cT2 (cInt .i64) cBool).enc (spec_l03End n ok)) :=
  givesT hmix [spec_l03Ok.e] 0 none Try.func78 rfl rfl ((by kernel_rfl : run1 Try.prog (tab [spec_l03Ok.e]) 0 none noL Try.f78 [(cInt .i64).enc n, cBool.enc ok] [] = spec_l03End.t n ok fun r => some ((cT2 (cInt .i64) cBool).enc r, [])).trans (spec_l03End.t_eq n ok _))
def spec_l03End.e : Entry Try.prog := entry2 (cInt .i64) cBool (cT2 (cInt .i64) cBool) 78 spec_l03End spec_l03End.gives

/-! ### spec.l03MulDown -/
def spec_l03MulDown.t {ρ : Type} (a : Int) (b : Int) (K : (Int × Bool) → Option ρ) : Option ρ := bif (!(spec_l03Ok a)) then (K (0, false)) else (bif (!(spec_l03Ok b)) then (K (0, false)) else (let t3 := (spec_MulFloor a b 32); let t4 := (spec_l03End t3.1 t3.2); K (t4.1, t4.2)))
theorem spec_l03MulDown.t_eq {ρ : Type} (a : Int) (b : Int) (K : (Int × Bool) → Option ρ) : spec_l03MulDown.t a b K = K (spec_l03MulDown a b) := cq (fun h0 => rfl) (fun h0 => cq (fun h1 => rfl) (fun h1 => rfl))
theorem spec_l03MulDown.gives (a : Int) (b : Int) : GivesV Try.prog 56 [(cInt .i64).enc a, (cInt .i64).enc b] ((cT2 (cInt .i64) cBool).enc (spec_l03MulDown a b)) :=
  givesT hmix [spec_l03Ok.e, spec_MulFloor.e, spec_l03End.e] 0 none Try.func56 rfl rfl ((by kernel_rfl : run1 Try.prog (tab [spec_l03Ok.e, spec_MulFloor.e, spec_l03End.e]) 0 none noL Try.f56 [(cInt .i64).enc a, (cInt .i64).enc b] [] = spec_l03MulDown.t a b fun r => some ((cT2 (cInt .i64) cBool).enc r, [])).trans (spec_l03MulDown.t_eq a b _))
def spec_l03MulDown.e : Entry Try.prog := entry2 (cInt .i64) (cInt .i64) (cT2 (cInt .i64) cBool) 56 spec_l03MulDown spec_l03MulDown.gives

/-! ### spec.l03MulUp -/
def spec_l03MulUp.t {ρ : Type} (a : Int) (b : Int) (K : (Int × Bool) → Option ρ) : Option ρ := let t1 := (spec_l03MulDown (w64 (0 - a)) b); bif (!(spec_l03Ok a)) then (K (0, false)) else (bif (!t1.2) then (K (0, false)) else (K ((w64 (0 - t1.1)), true)))
theorem spec_l03MulUp.t_eq {ρ : Type} (a : Int) (b : Int) (K : (Int × Bool) → Option ρ) : spec_l03MulUp.t a b K = K (spec_l03MulUp a b) := cq (fun h0 => rfl) (fun h0 => cq (fun h1 => rfl) (fun h1 => rfl))
theorem spec_l03MulUp.gives (a : Int) (b : Int) : GivesV Try.prog 57 [(cInt .i64).enc a, (cInt .i64).enc b] ((cT2 (cInt .i64) cBool).enc (spec_l03MulUp a b)) :=
  givesT hmix [spec_l03MulDown.e, spec_l03Ok.e] 0 none Try.func57 rfl rfl ((by kernel_rfl : run1 Try.prog (tab [spec_l03MulDown.e, spec_l03Ok.e]) 0 none noL Try.f57 [(cInt .i64).enc a, (cInt .i64).enc b] [] = spec_l03MulUp.t a b fun r => some ((cT2 (cInt .i64) cBool).enc r, [])).trans (spec_l03MulUp.t_eq a b _))
def spec_l03MulUp.e : Entry Try.prog := entry2 (cInt .i64) (cInt .i64) (cT2 (cInt .i64) cBool) 57 spec_l03MulUp spec_l03MulUp.gives

/-! ### spec.l00Min -/
def spec_l00Min.t {ρ : Type} (a : Int) (b : Int) (K : Int → Option ρ) : Option ρ := bif decide (a < b) then (K a) else (K b)
theorem spec_l00Min.t_eq {ρ : Type} (a : Int) (b : Int) (K : Int → Option ρ) : spec_l00Min.t a b K = K (spec_l00Min a b) := cq (fun h0 => rfl) (fun h0 => rfl)
theorem spec_l00Min.gives (a : Int) (b : Int) : GivesV Try.prog 58 [(cInt .i64).enc a, (cInt .i64).enc b] ((cInt .i64).enc (spec_l00Min a b)) :=
  givesT hmix [] 0 none Try.func58 rfl rfl ((by kernel_rfl : run1 Try.prog (tab []) 0 none noL Try.f58 [(cInt .i64).enc a, (cInt .i64).enc b] [] = spec_l00Min.t a b fun r => some ((cInt .i64).enc r, [])).trans (spec_l00Min.t_eq a b _))
def spec_l00Min.e : Entry Try.prog := entry2 (cInt .i64) (cInt .i64) (cInt .i64) 58 spec_l00Min spec_l00Min.gives

/-! ### spec.l00Max -/
def spec_l00Max.t {ρ : Type} (a : Int) (b : Int) (K : Int → Option ρ) : Option ρ := bif decide (a > b) then (K a) else (K b)
theorem spec_l00Max.t_eq {ρ : Type} (a : Int) (b : Int) (K : Int → Option ρ) : spec_l00Max.t a b K = K (spec_l00Max a b) := cq (fun h0 => rfl) (fun h0 => rfl)
theorem spec_l00Max.gives (a : Int) (b : Int) : GivesV Try.prog 59 [(cInt .i64).enc a, (cInt .i64).enc b] ((cInt .i64).enc (spec_l00Max a b)) :=
  givesT hmix [] 0 none Try.func59 rfl rfl ((by kernel_rfl : run1 Try.prog (tab []) 0 none noL Try.f59 [(cInt .i64).enc a, (cInt .i64).enc b] [] = spec_l00Max.t a b fun r => some ((cInt .i64).enc r, [])).trans (spec_l00Max.t_eq a b _))
def spec_l00Max.e : Entry Try.prog := entry2 (cInt .i64) (cInt .i64) (cInt .i64) 59 spec_l00Max spec_l00Max.gives

/-! ### spec.MulI -/
def spec_MulI.t {ρ : Type} (d : Iv) (i : Iv) (K : Iv → Option ρ) : Option ρ := bif (!(spec_l04Ok d)) then (K spec_l04Whole) else (bif (!(spec_l04Ok i)) then (K spec_l04Whole) else (let t5 := (spec_l03MulDown d.lo i.lo); let t6 := (spec_l03MulUp d.lo i.lo); bif (!t5.2) then (K spec_l04Whole) else (bif (!t6.2) then (K spec_l04Whole) else (let t11 := (spec_l03MulDown d.lo i.hi); let t12 := (spec_l03MulUp d.lo i.hi); bif (!t11.2) then (K spec_l04Whole) else (bif (!t12.2) then (K spec_l04Whole) else (let t17 := (spec_l03MulDown d.hi i.lo); let t18 := (spec_l03MulUp d.hi i.lo); bif (!t17.2) then (K spec_l04Whole) else (bif (!t18.2) then (K spec_l04Whole) else (let t23 := (spec_l03MulDown d.hi i.hi); let t24 := (spec_l03MulUp d.hi i.hi); bif (!t23.2) then (K spec_l04Whole) else (bif (!t24.2) then (K spec_l04Whole) else (K (spec_l04Make (spec_l00Min (spec_l00Min (spec_l00Min (spec_l00Min 1152921504606846976 t5.1) t11.1) t17.1) t23.1) (spec_l00Max (spec_l00Max (spec_l00Max (spec_l00Max (-1152921504606846976) t6.1) t12.1) t18.1) t24.1))))))))))))
theorem spec_MulI.t_eq {ρ : Type} (d : Iv) (i : Iv) (K : Iv → Option ρ) : spec_MulI.t d i K = K (spec_MulI d i) := cq (fun h0 => rfl) (fun h0 => cq (fun h1 => rfl) (fun h1 => cq (fun h2 => rfl) (fun h2 => cq (fun h3 => rfl) (fun h3 => cq (fun h4 => rfl) (fun h4 => cq (fun h5 => rfl) (fun h5 => cq (fun h6 => rfl) (fun h6 => cq (fun h7 => rfl) (fun h7 => cq (fun h8 => rfl) (fun h8 => cq (fun h9 => rfl) (fun h9 => rfl))))))))))
theorem spec_MulI.gives (d : Iv) (i : Iv) : GivesV Try.prog 33 [cIv.enc d, cIv.enc i] (cIv.enc (spec_MulI d i)) :=
  givesT hmix [spec_l04Ok.e, spec_l04Whole.e, spec_l03MulDown.e, spec_l03MulUp.e, spec_l00Min.e, spec_l00Max.e, spec_l04Make.e] 3 none Try.func33 rfl rfl ((by kernel_rfl : run1 Try.prog (tab [spec_l04Ok.e, spec_l04Whole.e, spec_l03MulDown.e, spec_l03MulUp.e, spec_l00Min.e, spec_l00Max.e, spec_l04Make.e]) 3 none noL Try.f33 [cIv.enc d, cIv.enc i] [] = spec_MulI.t d i fun r => some (cIv.enc r, [])).trans (spec_MulI.t_eq d i _))
def spec_MulI.e : Entry Try.prog := entry2 cIv cIv cIv 33 spec_MulI spec_MulI.gives

/-! ### spec.PolyDerivative -/
def spec_PolyDerivative.ls : Option (List Nat) := some [0, 4, 5, 1000000]
def spec_PolyDerivative.env5 (list : List Value) (v : Int × List Value) : Env := [(0, .slice (some ⟨0, 0, some 0⟩) 0 0), (4, .slice (some ⟨1, 0, some 0⟩) 0 0), (5, .int .i64 v.1)]
def spec_PolyDerivative.heap5 (list : List Value) (v : Int × List Value) : LH := [(lstC list false (.agg #[.int .i64 0, .int .i64 0]), 29), (lstC v.2 true (.agg #[.int .i64 0, .int .i64 0]), 29)]
def spec_PolyDerivative.L5 : LEntry := ⟨5, fun _ tm σ K => match tm, σ with
  | [(0, .slice (some ⟨0, 0, some 0⟩) 0 0), (4, .slice (some ⟨1, 0, some 0⟩) 0 0), (5, .int .i64 i)], [(⟨[.tuple ⟨list⟩, .bool false, .agg ⟨[.int .i64 0, .int .i64 0]⟩]⟩, 29), (⟨[.tuple ⟨out⟩, .bool true, .agg ⟨[.int .i64 0, .int .i64 0]⟩]⟩, 29)] => (match decide (1 ≤ i ∧ (i ≤ (list.length : Int) ∨ i = 1) ∧ (out.length : Int) = i - 1 ∧ (list.length : Int) ≤ 1048576) with | true => K (.exit 0) (spec_PolyDerivative.env5 list (spec_PolyDerivative.fin5 list (i, out))) (spec_PolyDerivative.heap5 list (spec_PolyDerivative.fin5 list (i, out))) | false => none)
  | _, _ => none⟩
def spec_PolyDerivative.lt5 {ρ : Type} (list : List Value) (i : Int) (out : List Value) (K : Sum (Int × List Value) (Int × List Value) → Option ρ) : Option ρ := bif decide (i < (list.length : Int)) then (bif decide (0 ≤ i ∧ i < (list.length : Int)) then (bif decide ((Int.toNat i) < list.length) then (let t3 := (spec_MulI (spec_Integer i) (atIv list false i)); bif decide ((out.length + 1) * 16 ≤ 140737488355328) then (K (Sum.inl ((w64 (i + 1)), ((Value.agg #[.int .i64 t3.lo, .int .i64 t3.hi]) :: out)))) else none) else none) else none) else (K (Sum.inr (i, out)))
theorem spec_PolyDerivative.lt5_eq {ρ : Type} (list : List Value) (i : Int) (out : List Value) (hpre : 1 ≤ i ∧ (i ≤ (list.length : Int) ∨ i = 1) ∧ (out.length : Int) = i - 1 ∧ (list.length : Int) ≤ 1048576) (K : Sum (Int × List Value) (Int × List Value) → Option ρ) : spec_PolyDerivative.lt5 list i out K = K (spec_PolyDerivative.rnd5 list i out) := cq (fun h0 => cqT (by exact decide_eq_true (by have h9 := of_decide_eq_true h0; omega)) (fun h1 => cqT (by exact decide_eq_true (by have h9 := of_decide_eq_true h0; omega)) (fun h2 => cqT (by exact decide_eq_true (by have h9 := of_decide_eq_true h0; omega)) (fun h3 => rfl)))) (fun h0 => rfl)
theorem spec_PolyDerivative.step5 (list : List Value) (i : Int) (out : List Value) (k : Nat) (R : Type) (K : LX → Env → LH → Option R) : loopN Try.prog 1 spec_PolyDerivative.ls (k + 1) (exec Try.prog (tab (P := Try.prog) [spec_l09Ok.e, spec_Integer.e, spec_MulI.e, (inl hmix [spec_l09Ok.e] 1 34 Try.f34 Try.func34 rfl)]) 1 37 0 spec_PolyDerivative.ls (lam [spec_PolyDerivative.L5]) (cOf Try.f39 0)) (spec_PolyDerivative.env5 list (i, out)) (spec_PolyDerivative.heap5 list (i, out)) K = spec_PolyDerivative.lt5 list i out (sumK (fun v => loopN Try.prog 1 spec_PolyDerivative.ls k (exec Try.prog (tab (P := Try.prog) [spec_l09Ok.e, spec_Integer.e, spec_MulI.e, (inl hmix [spec_l09Ok.e] 1 34 Try.f34 Try.func34 rfl)]) 1 37 0 spec_PolyDerivative.ls (lam [spec_PolyDerivative.L5]) (cOf Try.f39 0)) (spec_PolyDerivative.env5 list v) (spec_PolyDerivative.heap5 list v) K) (fun v => K (.exit 0) (spec_PolyDerivative.env5 list v) (spec_PolyDerivative.heap5 list v))) := by kernel_rfl
theorem spec_PolyDerivative.dec5 (list : List Value) (v : Int × List Value) (hv : 1 ≤ v.1 ∧ (v.1 ≤ (list.length : Int) ∨ v.1 = 1) ∧ (v.2.length : Int) = v.1 - 1 ∧ (list.length : Int) ≤ 1048576) (v' : Int × List Value) (hr : spec_PolyDerivative.rnd5 list v.1 v.2 = Sum.inl v') : (1 ≤ v'.1 ∧ (v'.1 ≤ (list.length : Int) ∨ v'.1 = 1) ∧ (v'.2.length : Int) = v'.1 - 1 ∧ (list.length : Int) ≤ 1048576) ∧ ((list.length : Int) - v'.1).toNat < ((list.length : Int) - v.1).toNat := by
  exact dec_sder hv hr
theorem spec_PolyDerivative.to5 : spec_PolyDerivative.L5.Ok Try.prog (tab (P := Try.prog) [spec_l09Ok.e, spec_Integer.e, spec_MulI.e, (inl hmix [spec_l09Ok.e] 1 34 Try.f34 Try.func34 rfl)]) 1 37 0 spec_PolyDerivative.ls (lam [spec_PolyDerivative.L5]) (cOf Try.f39 0) := by
  intro R tm σ K r h
  simp only [spec_PolyDerivative.L5] at h
  split at h
  case h_2 => simp at h
  split at h
  case h_2 => simp at h
  rename_i i list out _ hc
  exact ⟨_, _, _, h, loop_to (x := 0) (rnd := (fun v : Int × List Value => spec_PolyDerivative.rnd5 list v.1 v.2)) (env := fun v : Int × List Value => spec_PolyDerivative.env5 list v) (heap := fun v : Int × List Value => spec_PolyDerivative.heap5 list v) (Inv := (fun v : Int × List Value => 1 ≤ v.1 ∧ (v.1 ≤ (list.length : Int) ∨ v.1 = 1) ∧ (v.2.length : Int) = v.1 - 1 ∧ (list.length : Int) ≤ 1048576)) (μ := (fun v : Int × List Value => ((list.length : Int) - v.1).toNat)) (fun v hv k R K => (spec_PolyDerivative.step5 list v.1 v.2 k R K).trans (spec_PolyDerivative.lt5_eq list v.1 v.2 hv (sumK (fun v => loopN Try.prog 1 spec_PolyDerivative.ls k (exec Try.prog (tab (P := Try.prog) [spec_l09Ok.e, spec_Integer.e, spec_MulI.e, (inl hmix [spec_l09Ok.e] 1 34 Try.f34 Try.func34 rfl)]) 1 37 0 spec_PolyDerivative.ls (lam [spec_PolyDerivative.L5]) (cOf Try.f39 0)) (spec_PolyDerivative.env5 list v) (spec_PolyDerivative.heap5 list v) K) (fun v => K (.exit 0) (spec_PolyDerivative.env5 list v) (spec_PolyDerivative.heap5 list v))))) (fun v hv v' hr => spec_PolyDerivative.dec5 list v hv v' hr) 1048577 (i, out) (by have := of_decide_eq_true hc; first | exact this | (simp only []; exact this)) (by have := of_decide_eq_true hc; first | omega | (simp only []; omega))⟩
theorem spec_PolyDerivative.lok : ∀ c, Try.f39.body = some c → LamOk Try.prog (tab (P := Try.prog) [spec_l09Ok.e, spec_Integer.e, spec_MulI.e, (inl hmix [spec_l09Ok.e] 1 34 Try.f34 Try.func34 rfl)]) 1 Try.f39.ntmps 0 spec_PolyDerivative.ls (lam [spec_PolyDerivative.L5]) (loopsOf c) := by
  intro c hc
  have hb : loopsOf c = [(cOf Try.f39 0)] := by
    have h : loopsOf (Try.f39.body.getD .skip) = [(cOf Try.f39 0)] := by kernel_rfl
    rw [hc] at h
    exact h
  exact lam_ok1 hb spec_PolyDerivative.to5
def spec_PolyDerivative.t {ρ : Type} (list : List Value) (K : (List Value × Int) → Option ρ) : Option ρ := bif decide ((list.length : Int) ≤ 1048576) then (bif (!(spec_l09Ok list)) then (K (([] : List Value), 1)) else (bif decide (1 ≤ (1 : Int) ∧ ((1 : Int) ≤ (list.length : Int) ∨ (1 : Int) = 1) ∧ (([] : List Value).length : Int) = (1 : Int) - 1 ∧ (list.length : Int) ≤ 1048576) then (let t2 := (spec_PolyDerivative.fin5 list (1, ([] : List Value))); bif ((t2.2.length : Int) == 0) then (let t3 := (spec_Integer 0); bif decide ((t2.2.length + 1) * 16 ≤ 140737488355328) then (bif decide (((((Value.agg #[.int .i64 t3.lo, .int .i64 t3.hi]) :: t2.2)).length : Int) > 17) then (K (([] : List Value), 5)) else (bif decide (((List.reverse (((Value.agg #[.int .i64 t3.lo, .int .i64 t3.hi]) :: t2.2))).length : Int) ≤ 1048576) then (bif (!(spec_l09Ok (List.reverse (((Value.agg #[.int .i64 t3.lo, .int .i64 t3.hi]) :: t2.2))))) then (K (([] : List Value), 9)) else (K (((Value.agg #[.int .i64 t3.lo, .int .i64 t3.hi]) :: t2.2), 0))) else none)) else none) else (bif decide ((t2.2.length : Int) > 17) then (K (([] : List Value), 5)) else (bif decide (((List.reverse t2.2).length : Int) ≤ 1048576) then (bif (!(spec_l09Ok (List.reverse t2.2))) then (K (([] : List Value), 9)) else (K (t2.2, 0))) else none))) else none)) else none
theorem spec_PolyDerivative.t_eq {ρ : Type} (list : List Value) (hpre : (decide ((list.length : Int) ≤ 1048576)) = true) (K : (List Value × Int) → Option ρ) : spec_PolyDerivative.t list K = K (spec_PolyDerivative list) := cqT (by first | exact hpre | exact pd_sder1 hpre | exact pd_app h3 | exact pd_17 h5 | exact pd_17 h4) (fun h0 => cq (fun h1 => rfl) (fun h1 => cqT (by first | exact hpre | exact pd_sder1 hpre | exact pd_app h3 | exact pd_17 h5 | exact pd_17 h4) (fun h2 => cq (fun h3 => cqT (by first | exact hpre | exact pd_sder1 hpre | exact pd_app h3 | exact pd_17 h5 | exact pd_17 h4) (fun h4 => cq (fun h5 => rfl) (fun h5 => cqT (by first | exact hpre | exact pd_sder1 hpre | exact pd_app h3 | exact pd_17 h5 | exact pd_17 h4) (fun h6 => cq (fun h7 => rfl) (fun h7 => rfl))))) (fun h3 => cq (fun h4 => rfl) (fun h4 => cqT (by first | exact hpre | exact pd_sder1 hpre | exact pd_app h3 | exact pd_17 h5 | exact pd_17 h4) (fun h5 => cq (fun h6 => rfl) (fun h6 => rfl)))))))
theorem spec_PolyDerivative.gives (list : List Value) (hpre : (decide ((list.length : Int) ≤ 1048576)) = true) : GivesAR2 Try.prog 39 [(aL (.agg #[.int .i64 0, .int .i64 0]) 29).enc list] (.agg #[.int .i64 0, .int .i64 0]) 29 (spec_PolyDerivative list).1 ((cInt .i64).enc (spec_PolyDerivative list).2) :=
  givesAR2_L hmix [spec_l09Ok.e, spec_Integer.e, spec_MulI.e, (inl hmix [spec_l09Ok.e] 1 34 Try.f34 Try.func34 rfl)] 0 spec_PolyDerivative.ls (lam [spec_PolyDerivative.L5]) Try.func39 rfl (by decide) spec_PolyDerivative.lok ((by kernel_rfl : runK Try.prog (tab [spec_l09Ok.e, spec_Integer.e, spec_MulI.e, (inl hmix [spec_l09Ok.e] 1 34 Try.f34 Try.func34 rfl)]) 0 spec_PolyDerivative.ls (lam [spec_PolyDerivative.L5]) Try.f39 (argVals 0 [(aL (.agg #[.int .i64 0, .int .i64 0]) 29).enc list]) 1 (argBlocks [(aL (.agg #[.int .i64 0, .int .i64 0]) 29).enc list]) (hdrBlk2 1 (.agg #[.int .i64 0, .int .i64 0]) 29) = spec_PolyDerivative.t list fun r => some ((lstC r.1 true (.agg #[.int .i64 0, .int .i64 0]), 29), (cInt .i64).enc r.2)).trans (spec_PolyDerivative.t_eq list hpre _))
def spec_PolyDerivative.e : Entry Try.prog := entryAR21 (aL (.agg #[.int .i64 0, .int .i64 0]) 29) (cInt .i64) (.agg #[.int .i64 0, .int .i64 0]) 29 39 spec_PolyDerivative (fun list => decide ((list.length : Int) ≤ 1048576)) (fun list h => spec_PolyDerivative.gives list h)

/-! ### spec.l08At -/
def spec_l08At.t {ρ : Type} (n : Int) (K : Iv → Option ρ) : Option ρ := K (spec_l04Make n n)
theorem spec_l08At.t_eq {ρ : Type} (n : Int) (K : Iv → Option ρ) : spec_l08At.t n K = K (spec_l08At n) := rfl
theorem spec_l08At.gives (n : Int) : GivesV Try.prog 72 [(cInt .i64).enc n] (cIv.enc (spec_l08At n)) :=
  givesT hmix [spec_l04Make.e] 0 none Try.func72 rfl rfl ((by kernel_rfl : run1 Try.prog (tab [spec_l04Make.e]) 0 none noL Try.f72 [(cInt .i64).enc n] [] = spec_l08At.t n fun r => some (cIv.enc r, [])).trans (spec_l08At.t_eq n _))
def spec_l08At.e : Entry Try.prog := entry1 (cInt .i64) cIv 72 spec_l08At spec_l08At.gives

/-! ### spec.AddI -/
def spec_AddI.t {ρ : Type} (a : Iv) (b : Iv) (K : Iv → Option ρ) : Option ρ := bif (!(spec_l04Ok a)) then (K spec_l04Whole) else (bif (!(spec_l04Ok b)) then (K spec_l04Whole) else (K (spec_l04Make (w64 (a.lo + b.lo)) (w64 (a.hi + b.hi)))))
theorem spec_AddI.t_eq {ρ : Type} (a : Iv) (b : Iv) (K : Iv → Option ρ) : spec_AddI.t a b K = K (spec_AddI a b) := cq (fun h0 => rfl) (fun h0 => cq (fun h1 => rfl) (fun h1 => rfl))
theorem spec_AddI.gives (a : Iv) (b : Iv) : GivesV Try.prog 32 [cIv.enc a, cIv.enc b] (cIv.enc (spec_AddI a b)) :=
  givesT hmix [spec_l04Ok.e, spec_l04Whole.e, spec_l04Make.e] 0 none Try.func32 rfl rfl ((by kernel_rfl : run1 Try.prog (tab [spec_l04Ok.e, spec_l04Whole.e, spec_l04Make.e]) 0 none noL Try.f32 [cIv.enc a, cIv.enc b] [] = spec_AddI.t a b fun r => some (cIv.enc r, [])).trans (spec_AddI.t_eq a b _))
def spec_AddI.e : Entry Try.prog := entry2 cIv cIv cIv 32 spec_AddI spec_AddI.gives

/-! ### spec.l09At -/
def spec_l09At.ls : Option (List Nat) := some [0, 3, 4, 5, 6]
def spec_l09At.env3 (list : List Value) (x_lo : Int) (x_hi : Int) (v : Int × Int × Int) : Env := [(0, .slice (some ⟨0, 0, some 0⟩) 0 0), (3, .pointer (some ⟨1, 0, none⟩)), (4, .pointer (some ⟨2, 0, none⟩)), (5, .pointer (some ⟨3, 0, none⟩)), (6, .int .i64 v.1)]
def spec_l09At.heap3 (list : List Value) (x_lo : Int) (x_hi : Int) (v : Int × Int × Int) : LH := [(lstC list false (.agg #[.int .i64 0, .int .i64 0]), 29), (#[.int .i64 x_lo, .int .i64 x_hi], 29), (#[.int .i64 0, .int .i64 0], 29), (#[.int .i64 v.2.1, .int .i64 v.2.2], 29)]
def spec_l09At.L3 : LEntry := ⟨3, fun _ tm σ K => match tm, σ with
  | [(0, .slice (some ⟨0, 0, some 0⟩) 0 0), (3, .pointer (some ⟨1, 0, none⟩)), (4, .pointer (some ⟨2, 0, none⟩)), (5, .pointer (some ⟨3, 0, none⟩)), (6, .int .i64 i)], [(⟨[.tuple ⟨list⟩, .bool false, .agg ⟨[.int .i64 0, .int .i64 0]⟩]⟩, 29), (⟨[.int .i64 x_lo, .int .i64 x_hi]⟩, 29), (⟨[.int .i64 0, .int .i64 0]⟩, 29), (⟨[.int .i64 p_lo, .int .i64 p_hi]⟩, 29)] => (match decide (-1 ≤ i ∧ i < (list.length : Int) ∧ (list.length : Int) ≤ 1048576) with | true => K (.exit 0) (spec_l09At.env3 list x_lo x_hi (spec_l09At.fin3 list x_lo x_hi (i, p_lo, p_hi))) (spec_l09At.heap3 list x_lo x_hi (spec_l09At.fin3 list x_lo x_hi (i, p_lo, p_hi))) | false => none)
  | _, _ => none⟩
def spec_l09At.lt3 {ρ : Type} (list : List Value) (x_lo : Int) (x_hi : Int) (i : Int) (p_lo : Int) (p_hi : Int) (K : Sum (Int × Int × Int) (Int × Int × Int) → Option ρ) : Option ρ := bif decide (i ≥ 0) then (bif decide (0 ≤ i ∧ i < (list.length : Int)) then (bif decide ((Int.toNat i) < list.length) then (let t2 := (spec_AddI (spec_MulI (Iv.mk p_lo p_hi) (Iv.mk x_lo x_hi)) (atIv list false i)); K (Sum.inl ((w64 (i - 1)), t2.lo, t2.hi))) else none) else none) else (K (Sum.inr (i, p_lo, p_hi)))
theorem spec_l09At.lt3_eq {ρ : Type} (list : List Value) (x_lo : Int) (x_hi : Int) (i : Int) (p_lo : Int) (p_hi : Int) (hpre : -1 ≤ i ∧ i < (list.length : Int) ∧ (list.length : Int) ≤ 1048576) (K : Sum (Int × Int × Int) (Int × Int × Int) → Option ρ) : spec_l09At.lt3 list x_lo x_hi i p_lo p_hi K = K (spec_l09At.rnd3 list x_lo x_hi i p_lo p_hi) := cq (fun h0 => cqT (by first | exact u64_neg _ | (simp only [decide_eq_true_eq, decide_eq_false_iff_not] at *; omega) | (simp only [Bool.not_eq_eq_eq_not, Bool.not_false, inside_iff, l00In_iff, decide_eq_true_eq, decide_eq_false_iff_not, w64_def, u64_def] at *; omega)) (fun h1 => cqT (by first | exact u64_neg _ | (simp only [decide_eq_true_eq, decide_eq_false_iff_not] at *; omega) | (simp only [Bool.not_eq_eq_eq_not, Bool.not_false, inside_iff, l00In_iff, decide_eq_true_eq, decide_eq_false_iff_not, w64_def, u64_def] at *; omega)) (fun h2 => rfl))) (fun h0 => rfl)
theorem spec_l09At.step3 (list : List Value) (x_lo : Int) (x_hi : Int) (i : Int) (p_lo : Int) (p_hi : Int) (k : Nat) (R : Type) (K : LX → Env → LH → Option R) : loopN Try.prog 1 spec_l09At.ls (k + 1) (exec Try.prog (tab (P := Try.prog) [spec_MulI.e, spec_AddI.e]) 1 29 0 spec_l09At.ls (lam [spec_l09At.L3]) (cOf Try.f70 0)) (spec_l09At.env3 list x_lo x_hi (i, p_lo, p_hi)) (spec_l09At.heap3 list x_lo x_hi (i, p_lo, p_hi)) K = spec_l09At.lt3 list x_lo x_hi i p_lo p_hi (sumK (fun v => loopN Try.prog 1 spec_l09At.ls k (exec Try.prog (tab (P := Try.prog) [spec_MulI.e, spec_AddI.e]) 1 29 0 spec_l09At.ls (lam [spec_l09At.L3]) (cOf Try.f70 0)) (spec_l09At.env3 list x_lo x_hi v) (spec_l09At.heap3 list x_lo x_hi v) K) (fun v => K (.exit 0) (spec_l09At.env3 list x_lo x_hi v) (spec_l09At.heap3 list x_lo x_hi v))) := by kernel_rfl
theorem spec_l09At.dec3 (list : List Value) (x_lo : Int) (x_hi : Int) (v : Int × Int × Int) (hv : -1 ≤ v.1 ∧ v.1 < (list.length : Int) ∧ (list.length : Int) ≤ 1048576) (v' : Int × Int × Int) (hr : spec_l09At.rnd3 list x_lo x_hi v.1 v.2.1 v.2.2 = Sum.inl v') : (-1 ≤ v'.1 ∧ v'.1 < (list.length : Int) ∧ (list.length : Int) ≤ 1048576) ∧ (v'.1 + 1).toNat < (v.1 + 1).toNat := by
  exact dec_l09At hv hr
theorem spec_l09At.to3 : spec_l09At.L3.Ok Try.prog (tab (P := Try.prog) [spec_MulI.e, spec_AddI.e]) 1 29 0 spec_l09At.ls (lam [spec_l09At.L3]) (cOf Try.f70 0) := by
  intro R tm σ K r h
  simp only [spec_l09At.L3] at h
  split at h
  case h_2 => simp at h
  split at h
  case h_2 => simp at h
  rename_i i list x_lo x_hi p_lo p_hi _ hc
  exact ⟨_, _, _, h, loop_to (x := 0) (rnd := (fun v : Int × Int × Int => spec_l09At.rnd3 list x_lo x_hi v.1 v.2.1 v.2.2)) (env := fun v : Int × Int × Int => spec_l09At.env3 list x_lo x_hi v) (heap := fun v : Int × Int × Int => spec_l09At.heap3 list x_lo x_hi v) (Inv := (fun v : Int × Int × Int => -1 ≤ v.1 ∧ v.1 < (list.length : Int) ∧ (list.length : Int) ≤ 1048576)) (μ := (fun v : Int × Int × Int => (v.1 + 1).toNat)) (fun v hv k R K => (spec_l09At.step3 list x_lo x_hi v.1 v.2.1 v.2.2 k R K).trans (spec_l09At.lt3_eq list x_lo x_hi v.1 v.2.1 v.2.2 hv (sumK (fun v => loopN Try.prog 1 spec_l09At.ls k (exec Try.prog (tab (P := Try.prog) [spec_MulI.e, spec_AddI.e]) 1 29 0 spec_l09At.ls (lam [spec_l09At.L3]) (cOf Try.f70 0)) (spec_l09At.env3 list x_lo x_hi v) (spec_l09At.heap3 list x_lo x_hi v) K) (fun v => K (.exit 0) (spec_l09At.env3 list x_lo x_hi v) (spec_l09At.heap3 list x_lo x_hi v))))) (fun v hv v' hr => spec_l09At.dec3 list x_lo x_hi v hv v' hr) 1048577 (i, p_lo, p_hi) (by have := of_decide_eq_true hc; first | exact this | (simp only []; exact this)) (by have := of_decide_eq_true hc; first | omega | (simp only []; omega))⟩
theorem spec_l09At.lok : ∀ c, Try.f70.body = some c → LamOk Try.prog (tab (P := Try.prog) [spec_MulI.e, spec_AddI.e]) 1 Try.f70.ntmps 0 spec_l09At.ls (lam [spec_l09At.L3]) (loopsOf c) := by
  intro c hc
  have hb : loopsOf c = [(cOf Try.f70 0)] := by
    have h : loopsOf (Try.f70.body.getD .skip) = [(cOf Try.f70 0)] := by kernel_rfl
    rw [hc] at h
    exact h
  exact lam_ok1 hb spec_l09At.to3
def spec_l09At.t {ρ : Type} (list : List Value) (x : Iv) (K : Iv → Option ρ) : Option ρ := bif decide (0 ≤ (w64 ((list.length : Int) - 1)) ∧ (w64 ((list.length : Int) - 1)) < (list.length : Int)) then (bif decide ((Int.toNat (w64 ((list.length : Int) - 1))) < list.length) then (bif decide (-1 ≤ (w64 ((list.length : Int) - 2)) ∧ (w64 ((list.length : Int) - 2)) < (list.length : Int) ∧ (list.length : Int) ≤ 1048576) then (let t1 := (spec_l09At.fin3 list x.lo x.hi ((w64 ((list.length : Int) - 2)), (atIv list false ((w64 ((list.length : Int) - 1)))).lo, (atIv list false ((w64 ((list.length : Int) - 1)))).hi)); K (Iv.mk t1.2.1 t1.2.2)) else none) else none) else none
theorem spec_l09At.t_eq {ρ : Type} (list : List Value) (x : Iv) (hpre : (decide (1 ≤ (list.length : Int) ∧ (list.length : Int) ≤ 1048576)) = true) (K : Iv → Option ρ) : spec_l09At.t list x K = K (spec_l09At list x) := cqT (by first | exact u64_neg _ | (simp only [decide_eq_true_eq, decide_eq_false_iff_not] at *; omega) | (simp only [Bool.not_eq_eq_eq_not, Bool.not_false, inside_iff, l00In_iff, decide_eq_true_eq, decide_eq_false_iff_not, w64_def, u64_def] at *; omega)) (fun h0 => cqT (by first | exact u64_neg _ | (simp only [decide_eq_true_eq, decide_eq_false_iff_not] at *; omega) | (simp only [Bool.not_eq_eq_eq_not, Bool.not_false, inside_iff, l00In_iff, decide_eq_true_eq, decide_eq_false_iff_not, w64_def, u64_def] at *; omega)) (fun h1 => cqT (by first | exact u64_neg _ | (simp only [decide_eq_true_eq, decide_eq_false_iff_not] at *; omega) | (simp only [Bool.not_eq_eq_eq_not, Bool.not_false, inside_iff, l00In_iff, decide_eq_true_eq, decide_eq_false_iff_not, w64_def, u64_def] at *; omega)) (fun h2 => rfl)))
theorem spec_l09At.gives (list : List Value) (x : Iv) (hpre : (decide (1 ≤ (list.length : Int) ∧ (list.length : Int) ≤ 1048576)) = true) : GivesA Try.prog 70 [(aL (.agg #[.int .i64 0, .int .i64 0]) 29).enc list, (aV cIv).enc x] (cIv.enc (spec_l09At list x)) :=
  givesA_L hmix [spec_MulI.e, spec_AddI.e] 0 spec_l09At.ls (lam [spec_l09At.L3]) Try.func70 rfl spec_l09At.lok ((by kernel_rfl : run1 Try.prog (tab [spec_MulI.e, spec_AddI.e]) 0 spec_l09At.ls (lam [spec_l09At.L3]) Try.f70 (argVals 0 [(aL (.agg #[.int .i64 0, .int .i64 0]) 29).enc list, (aV cIv).enc x]) (argBlocks [(aL (.agg #[.int .i64 0, .int .i64 0]) 29).enc list, (aV cIv).enc x]) = spec_l09At.t list x fun r => some (cIv.enc r, argBlocks [(aL (.agg #[.int .i64 0, .int .i64 0]) 29).enc list, (aV cIv).enc x])).trans (spec_l09At.t_eq list x hpre _))
def spec_l09At.e : Entry Try.prog := entryA2 (aL (.agg #[.int .i64 0, .int .i64 0]) 29) (aV cIv) cIv 70 spec_l09At (fun list x => decide (1 ≤ (list.length : Int) ∧ (list.length : Int) ≤ 1048576)) (fun list x h => spec_l09At.gives list x h)

/-! ### spec.l09Sign -/
def spec_l09Sign.t {ρ : Type} (x : Iv) (K : Int → Option ρ) : Option ρ := bif (!(spec_l04Ok x)) then (K 0) else (bif decide (x.lo > 0) then (K 1) else (bif decide (x.hi < 0) then (K (-1)) else (K 0)))
theorem spec_l09Sign.t_eq {ρ : Type} (x : Iv) (K : Int → Option ρ) : spec_l09Sign.t x K = K (spec_l09Sign x) := cq (fun h0 => rfl) (fun h0 => cq (fun h1 => rfl) (fun h1 => cq (fun h2 => rfl) (fun h2 => rfl)))
theorem spec_l09Sign.gives (x : Iv) : GivesV Try.prog 69 [cIv.enc x] ((cInt .i64).enc (spec_l09Sign x)) :=
  givesT hmix [spec_l04Ok.e] 0 none Try.func69 rfl rfl ((by kernel_rfl : run1 Try.prog (tab [spec_l04Ok.e]) 0 none noL Try.f69 [cIv.enc x] [] = spec_l09Sign.t x fun r => some ((cInt .i64).enc r, [])).trans (spec_l09Sign.t_eq x _))
def spec_l09Sign.e : Entry Try.prog := entry1 cIv (cInt .i64) 69 spec_l09Sign spec_l09Sign.gives

/-! ### spec.l09SignAt -/
def spec_l09SignAt.t {ρ : Type} (list : List Value) (n : Int) (K : Int → Option ρ) : Option ρ := bif decide (1 ≤ (list.length : Int) ∧ (list.length : Int) ≤ 1048576) then (K (spec_l09Sign (spec_l09At list (spec_l08At n)))) else none
theorem spec_l09SignAt.t_eq {ρ : Type} (list : List Value) (n : Int) (hpre : (decide (1 ≤ (list.length : Int) ∧ (list.length : Int) ≤ 1048576)) = true) (K : Int → Option ρ) : spec_l09SignAt.t list n K = K (spec_l09SignAt list n) := cqT (by exact hpre) (fun h0 => rfl)
theorem spec_l09SignAt.gives (list : List Value) (n : Int) (hpre : (decide (1 ≤ (list.length : Int) ∧ (list.length : Int) ≤ 1048576)) = true) : GivesA Try.prog 45 [(aL (.agg #[.int .i64 0, .int .i64 0]) 29).enc list, (aV (cInt .i64)).enc n] ((cInt .i64).enc (spec_l09SignAt list n)) :=
  givesA_L hmix [spec_l08At.e, spec_l09At.e, spec_l09Sign.e] 0 none noL Try.func45 rfl (fun _ _ => noL_ok) ((by kernel_rfl : run1 Try.prog (tab [spec_l08At.e, spec_l09At.e, spec_l09Sign.e]) 0 none noL Try.f45 (argVals 0 [(aL (.agg #[.int .i64 0, .int .i64 0]) 29).enc list, (aV (cInt .i64)).enc n]) (argBlocks [(aL (.agg #[.int .i64 0, .int .i64 0]) 29).enc list, (aV (cInt .i64)).enc n]) = spec_l09SignAt.t list n fun r => some ((cInt .i64).enc r, argBlocks [(aL (.agg #[.int .i64 0, .int .i64 0]) 29).enc list, (aV (cInt .i64)).enc n])).trans (spec_l09SignAt.t_eq list n hpre _))
def spec_l09SignAt.e : Entry Try.prog := entryA2 (aL (.agg #[.int .i64 0, .int .i64 0]) 29) (aV (cInt .i64)) (cInt .i64) 45 spec_l09SignAt (fun list n => decide (1 ≤ (list.length : Int) ∧ (list.length : Int) ≤ 1048576)) (fun list n h => spec_l09SignAt.gives list n h)

/-! ### spec.l09Change -/
def spec_l09Change.t {ρ : Type} (list : List Value) (x : Iv) (K : Int → Option ρ) : Option ρ := bif decide (1 ≤ (list.length : Int) ∧ (list.length : Int) ≤ 1048576) then (let t1 := (spec_l09SignAt list x.lo); bif decide (1 ≤ (list.length : Int) ∧ (list.length : Int) ≤ 1048576) then (let t2 := (spec_l09SignAt list x.hi); bif (t1 == 0) then (K 2) else (bif (t2 == 0) then (K 2) else (bif (t1 != t2) then (K 1) else (K 0)))) else none) else none
theorem spec_l09Change.t_eq {ρ : Type} (list : List Value) (x : Iv) (hpre : (decide (1 ≤ (list.length : Int) ∧ (list.length : Int) ≤ 1048576)) = true) (K : Int → Option ρ) : spec_l09Change.t list x K = K (spec_l09Change list x) := cqT (by exact hpre) (fun h0 => cqT (by exact hpre) (fun h1 => cq (fun h2 => rfl) (fun h2 => cq (fun h3 => rfl) (fun h3 => cq (fun h4 => rfl) (fun h4 => rfl)))))
theorem spec_l09Change.gives (list : List Value) (x : Iv) (hpre : (decide (1 ≤ (list.length : Int) ∧ (list.length : Int) ≤ 1048576)) = true) : GivesA Try.prog 27 [(aL (.agg #[.int .i64 0, .int .i64 0]) 29).enc list, (aV cIv).enc x] ((cInt .i64).enc (spec_l09Change list x)) :=
  givesA_L hmix [spec_l09SignAt.e] 0 none noL Try.func27 rfl (fun _ _ => noL_ok) ((by kernel_rfl : run1 Try.prog (tab [spec_l09SignAt.e]) 0 none noL Try.f27 (argVals 0 [(aL (.agg #[.int .i64 0, .int .i64 0]) 29).enc list, (aV cIv).enc x]) (argBlocks [(aL (.agg #[.int .i64 0, .int .i64 0]) 29).enc list, (aV cIv).enc x]) = spec_l09Change.t list x fun r => some ((cInt .i64).enc r, argBlocks [(aL (.agg #[.int .i64 0, .int .i64 0]) 29).enc list, (aV cIv).enc x])).trans (spec_l09Change.t_eq list x hpre _))
def spec_l09Change.e : Entry Try.prog := entryA2 (aL (.agg #[.int .i64 0, .int .i64 0]) 29) (aV cIv) (cInt .i64) 27 spec_l09Change (fun list x => decide (1 ≤ (list.length : Int) ∧ (list.length : Int) ≤ 1048576)) (fun list x h => spec_l09Change.gives list x h)

/-! ### spec.l09Unique -/
def spec_l09Unique.t {ρ : Type} (list : List Value) (slope : List Value) (x : Iv) (K : Bool → Option ρ) : Option ρ := bif decide (1 ≤ (list.length : Int) ∧ (list.length : Int) ≤ 1048576) then (bif ((spec_l09Change list x) == 1) then (bif decide (1 ≤ (slope.length : Int) ∧ (slope.length : Int) ≤ 1048576) then (K ((spec_l09Sign (spec_l09At slope x)) != 0)) else none) else (K false)) else none
theorem spec_l09Unique.t_eq {ρ : Type} (list : List Value) (slope : List Value) (x : Iv) (hpre : (decide ((1 ≤ (list.length : Int) ∧ (list.length : Int) ≤ 1048576) ∧ (1 ≤ (slope.length : Int) ∧ (slope.length : Int) ≤ 1048576))) = true) (K : Bool → Option ρ) : spec_l09Unique.t list slope x K = K (spec_l09Unique list slope x) := cqT (by first | exact u64_neg _ | (simp only [decide_eq_true_eq, decide_eq_false_iff_not] at *; omega) | (simp only [Bool.not_eq_eq_eq_not, Bool.not_false, inside_iff, l00In_iff, decide_eq_true_eq, decide_eq_false_iff_not, w64_def, u64_def] at *; omega)) (fun h0 => cq (fun h1 => cqT (by first | exact u64_neg _ | (simp only [decide_eq_true_eq, decide_eq_false_iff_not] at *; omega) | (simp only [Bool.not_eq_eq_eq_not, Bool.not_false, inside_iff, l00In_iff, decide_eq_true_eq, decide_eq_false_iff_not, w64_def, u64_def] at *; omega)) (fun h2 => rfl)) (fun h1 => rfl))
theorem spec_l09Unique.gives (list : List Value) (slope : List Value) (x : Iv) (hpre : (decide ((1 ≤ (list.length : Int) ∧ (list.length : Int) ≤ 1048576) ∧ (1 ≤ (slope.length : Int) ∧ (slope.length : Int) ≤ 1048576))) = true) : GivesA Try.prog 40 [(aL (.agg #[.int .i64 0, .int .i64 0]) 29).enc list, (aL (.agg #[.int .i64 0, .int .i64 0]) 29).enc slope, (aV cIv).enc x] (cBool.enc (spec_l09Unique list slope x)) :=
  givesA_L hmix [spec_l09Change.e, spec_l09At.e, spec_l09Sign.e] 0 none noL Try.func40 rfl (fun _ _ => noL_ok) ((by kernel_rfl : run1 Try.prog (tab [spec_l09Change.e, spec_l09At.e, spec_l09Sign.e]) 0 none noL Try.f40 (argVals 0 [(aL (.agg #[.int .i64 0, .int .i64 0]) 29).enc list, (aL (.agg #[.int .i64 0, .int .i64 0]) 29).enc slope, (aV cIv).enc x]) (argBlocks [(aL (.agg #[.int .i64 0, .int .i64 0]) 29).enc list, (aL (.agg #[.int .i64 0, .int .i64 0]) 29).enc slope, (aV cIv).enc x]) = spec_l09Unique.t list slope x fun r => some (cBool.enc r, argBlocks [(aL (.agg #[.int .i64 0, .int .i64 0]) 29).enc list, (aL (.agg #[.int .i64 0, .int .i64 0]) 29).enc slope, (aV cIv).enc x])).trans (spec_l09Unique.t_eq list slope x hpre _))
def spec_l09Unique.e : Entry Try.prog := entryA3 (aL (.agg #[.int .i64 0, .int .i64 0]) 29) (aL (.agg #[.int .i64 0, .int .i64 0]) 29) (aV cIv) cBool 40 spec_l09Unique (fun list slope x => decide ((1 ≤ (list.length : Int) ∧ (list.length : Int) ≤ 1048576) ∧ (1 ≤ (slope.length : Int) ∧ (slope.length : Int) ≤ 1048576))) (fun list slope x h => spec_l09Unique.gives list slope x h)

/-! ### spec.UniqueRoot -/
def spec_UniqueRoot.t {ρ : Type} (list : List Value) (x : Iv) (K : Bool → Option ρ) : Option ρ := bif decide ((list.length : Int) ≤ 1048576) then (let t1 := (spec_PolyDerivative list); bif (t1.2 == 0) then (bif (spec_l04Ok x) then (bif decide ((1 ≤ (list.length : Int) ∧ (list.length : Int) ≤ 1048576) ∧ (1 ≤ ((List.reverse t1.1).length : Int) ∧ ((List.reverse t1.1).length : Int) ≤ 1048576)) then (K (spec_l09Unique list (List.reverse t1.1) x)) else none) else (K false)) else (K false)) else none
theorem spec_UniqueRoot.t_eq {ρ : Type} (list : List Value) (x : Iv) (hpre : (decide ((list.length : Int) ≤ 1048576)) = true) (K : Bool → Option ρ) : spec_UniqueRoot.t list x K = K (spec_UniqueRoot list x) := cqT (by first | exact hpre | exact pd_suni hpre h1) (fun h0 => cq (fun h1 => cq (fun h2 => cqT (by first | exact hpre | exact pd_suni hpre h1) (fun h3 => rfl)) (fun h2 => rfl)) (fun h1 => rfl))
theorem spec_UniqueRoot.gives (list : List Value) (x : Iv) (hpre : (decide ((list.length : Int) ≤ 1048576)) = true) : GivesA Try.prog 18 [(aL (.agg #[.int .i64 0, .int .i64 0]) 29).enc list, (aV cIv).enc x] (cBool.enc (spec_UniqueRoot list x)) :=
  givesA_L hmix [spec_PolyDerivative.e, spec_l04Ok.e, spec_l09Unique.e] 0 none noL Try.func18 rfl (fun _ _ => noL_ok) ((by kernel_rfl : run1 Try.prog (tab [spec_PolyDerivative.e, spec_l04Ok.e, spec_l09Unique.e]) 0 none noL Try.f18 (argVals 0 [(aL (.agg #[.int .i64 0, .int .i64 0]) 29).enc list, (aV cIv).enc x]) (argBlocks [(aL (.agg #[.int .i64 0, .int .i64 0]) 29).enc list, (aV cIv).enc x]) = spec_UniqueRoot.t list x fun r => some (cBool.enc r, argBlocks [(aL (.agg #[.int .i64 0, .int .i64 0]) 29).enc list, (aV cIv).enc x])).trans (spec_UniqueRoot.t_eq list x hpre _))
def spec_UniqueRoot.e : Entry Try.prog := entryA2 (aL (.agg #[.int .i64 0, .int .i64 0]) 29) (aV cIv) cBool 18 spec_UniqueRoot (fun list x => decide ((list.length : Int) ≤ 1048576)) (fun list x h => spec_UniqueRoot.gives list x h)

/-! ### impl.Interval] -/
def impl_length.t {ρ : Type} (list : List Value) (K : Int → Option ρ) : Option ρ := K (list.length : Int)
theorem impl_length.t_eq {ρ : Type} (list : List Value) (hpre : (decide ((list.length : Int) ≤ 1048576)) = true) (K : Int → Option ρ) : impl_length.t list K = K (impl_length list) := rfl
theorem impl_length.gives (list : List Value) (hpre : (decide ((list.length : Int) ≤ 1048576)) = true) : GivesA Try.prog 61 [(aL (.agg #[.int .i64 0, .int .i64 0]) 29).enc list] ((cInt .i64).enc (impl_length list)) :=
  givesA_L hmix [] 0 none noL Try.func61 rfl (fun _ _ => noL_ok) ((by kernel_rfl : run1 Try.prog (tab []) 0 none noL Try.f61 (argVals 0 [(aL (.agg #[.int .i64 0, .int .i64 0]) 29).enc list]) (argBlocks [(aL (.agg #[.int .i64 0, .int .i64 0]) 29).enc list]) = impl_length.t list fun r => some ((cInt .i64).enc r, argBlocks [(aL (.agg #[.int .i64 0, .int .i64 0]) 29).enc list])).trans (impl_length.t_eq list hpre _))
def impl_length.e : Entry Try.prog := entryA1 (aL (.agg #[.int .i64 0, .int .i64 0]) 29) (cInt .i64) 61 impl_length (fun list => decide ((list.length : Int) ≤ 1048576)) (fun list h => impl_length.gives list h)

/-! ### impl.within -/
def impl_within.t {ρ : Type} (x : Int) (low : Int) (high : Int) (K : Bool → Option ρ) : Option ρ := bif decide (x ≥ low) then (K (decide (x ≤ high))) else (K false)
theorem impl_within.t_eq {ρ : Type} (x : Int) (low : Int) (high : Int) (K : Bool → Option ρ) : impl_within.t x low high K = K (impl_within x low high) := cq (fun h0 => rfl) (fun h0 => rfl)
theorem impl_within.gives (x : Int) (low : Int) (high : Int) : GivesV Try.prog 60 [(cInt .i64).enc x, (cInt .i64).enc low, (cInt .i64).enc high] (cBool.enc (impl_within x low high)) :=
  givesT hmix [] 0 none Try.func60 rfl rfl ((by kernel_rfl : run1 Try.prog (tab []) 0 none noL Try.f60 [(cInt .i64).enc x, (cInt .i64).enc low, (cInt .i64).enc high] [] = impl_within.t x low high fun r => some (cBool.enc r, [])).trans (impl_within.t_eq x low high _))
def impl_within.e : Entry Try.prog := entry3 (cInt .i64) (cInt .i64) (cInt .i64) cBool 60 impl_within impl_within.gives

/-! ### impl.ValidInterval -/
def impl_ValidInterval.t {ρ : Type} (i : Iv) (K : Bool → Option ρ) : Option ρ := bif decide ((-1152921504606846976) < i.lo) then (bif decide (i.lo ≤ i.hi) then (K (decide (i.hi < 1152921504606846976))) else (K false)) else (K false)
theorem impl_ValidInterval.t_eq {ρ : Type} (i : Iv) (K : Bool → Option ρ) : impl_ValidInterval.t i K = K (impl_ValidInterval i) := cq (fun h0 => cq (fun h1 => rfl) (fun h1 => rfl)) (fun h0 => rfl)
theorem impl_ValidInterval.gives (i : Iv) : GivesV Try.prog 52 [cIv.enc i] (cBool.enc (impl_ValidInterval i)) :=
  givesT hmix [] 0 none Try.func52 rfl rfl ((by kernel_rfl : run1 Try.prog (tab []) 0 none noL Try.f52 [cIv.enc i] [] = impl_ValidInterval.t i fun r => some (cBool.enc r, [])).trans (impl_ValidInterval.t_eq i _))
def impl_ValidInterval.e : Entry Try.prog := entry1 cIv cBool 52 impl_ValidInterval impl_ValidInterval.gives

/-! ### impl.IsWhole -/
def impl_IsWhole.t {ρ : Type} (i : Iv) (K : Bool → Option ρ) : Option ρ := K (!(impl_ValidInterval i))
theorem impl_IsWhole.t_eq {ρ : Type} (i : Iv) (K : Bool → Option ρ) : impl_IsWhole.t i K = K (impl_IsWhole i) := rfl
theorem impl_IsWhole.gives (i : Iv) : GivesV Try.prog 28 [cIv.enc i] (cBool.enc (impl_IsWhole i)) :=
  givesT hmix [impl_ValidInterval.e] 0 none Try.func28 rfl rfl ((by kernel_rfl : run1 Try.prog (tab [impl_ValidInterval.e]) 0 none noL Try.f28 [cIv.enc i] [] = impl_IsWhole.t i fun r => some (cBool.enc r, [])).trans (impl_IsWhole.t_eq i _))
def impl_IsWhole.e : Entry Try.prog := entry1 cIv cBool 28 impl_IsWhole impl_IsWhole.gives

/-! ### impl.Interval] -/
def slices_IndexFunc.ls : Option (List Nat) := some [0, 1, 4, 7, 8]
def slices_IndexFunc.env2 (s : List Value) (n : Int) (v : Int) : Env := [(0, .slice (some ⟨0, 0, some 0⟩) 0 0), (1, .func (.func 28) #[] #[]), (4, .int .i64 0), (7, .int .i64 n), (8, .int .i64 v)]
def slices_IndexFunc.heap2 (s : List Value) (n : Int) (v : Int) : LH := [(lstC s false (.agg #[.int .i64 0, .int .i64 0]), 29)]
def slices_IndexFunc.envQ2 (s : List Value) (n : Int) (v : Int × Int) : Env := [(0, .slice (some ⟨0, 0, some 0⟩) 0 0), (1, .func (.func 28) #[] #[]), (4, .int .i64 v.2), (7, .int .i64 n), (8, .int .i64 v.1)]
def slices_IndexFunc.heapQ2 (s : List Value) (n : Int) (v : Int × Int) : LH := [(lstC s false (.agg #[.int .i64 0, .int .i64 0]), 29)]
def slices_IndexFunc.L2 : LEntry := ⟨2, fun _ tm σ K => match tm, σ with
  | [(0, .slice (some ⟨0, 0, some 0⟩) 0 0), (1, .func (.func 28) ⟨[]⟩ ⟨[]⟩), (4, .int .i64 0), (7, .int .i64 n), (8, .int .i64 i)], [(⟨[.tuple ⟨s⟩, .bool false, .agg ⟨[.int .i64 0, .int .i64 0]⟩]⟩, 29)] => (match decide (n = (s.length : Int) ∧ 0 ≤ i ∧ i ≤ (s.length : Int) ∧ (s.length : Int) ≤ 1048576) with | true => caseR (fun v => K (.exit 0) (slices_IndexFunc.env2 s n v) (slices_IndexFunc.heap2 s n v)) (fun v => K .ret (slices_IndexFunc.envQ2 s n v) (slices_IndexFunc.heapQ2 s n v)) (slices_IndexFunc.fin2 s n i) | false => none)
  | _, _ => none⟩
def slices_IndexFunc.lt2 {ρ : Type} (s : List Value) (n : Int) (i : Int) (K : Sum (Int) (Sum (Int) (Int × Int)) → Option ρ) : Option ρ := bif decide (i < n) then (bif decide (0 ≤ i ∧ i < (s.length : Int)) then (bif decide ((Int.toNat i) < s.length) then (bif (impl_IsWhole (atIv s false i)) then (K (Sum.inr (Sum.inr (i, i)))) else (K (Sum.inl (w64 (i + 1))))) else none) else none) else (K (Sum.inr (Sum.inl i)))
theorem slices_IndexFunc.lt2_eq {ρ : Type} (s : List Value) (n : Int) (i : Int) (hpre : n = (s.length : Int) ∧ 0 ≤ i ∧ i ≤ (s.length : Int) ∧ (s.length : Int) ≤ 1048576) (K : Sum (Int) (Sum (Int) (Int × Int)) → Option ρ) : slices_IndexFunc.lt2 s n i K = K (slices_IndexFunc.rnd2 s n i) := cq (fun h0 => cqT (by first | exact u64_neg _ | (simp only [decide_eq_true_eq, decide_eq_false_iff_not] at *; omega) | (simp only [Bool.not_eq_eq_eq_not, Bool.not_false, inside_iff, l00In_iff, decide_eq_true_eq, decide_eq_false_iff_not, w64_def, u64_def] at *; omega)) (fun h1 => cqT (by first | exact u64_neg _ | (simp only [decide_eq_true_eq, decide_eq_false_iff_not] at *; omega) | (simp only [Bool.not_eq_eq_eq_not, Bool.not_false, inside_iff, l00In_iff, decide_eq_true_eq, decide_eq_false_iff_not, w64_def, u64_def] at *; omega)) (fun h2 => cq (fun h3 => rfl) (fun h3 => rfl)))) (fun h0 => rfl)
theorem slices_IndexFunc.step2 (s : List Value) (n : Int) (i : Int) (k : Nat) (R : Type) (K : LX → Env → LH → Option R) : loopN Try.prog 1 slices_IndexFunc.ls (k + 1) (exec Try.prog (tab (P := Try.prog) [impl_IsWhole.e]) 1 19 0 slices_IndexFunc.ls (lam [slices_IndexFunc.L2]) (cOf Try.f79 0)) (slices_IndexFunc.env2 s n i) (slices_IndexFunc.heap2 s n i) K = slices_IndexFunc.lt2 s n i (sumR (fun v => loopN Try.prog 1 slices_IndexFunc.ls k (exec Try.prog (tab (P := Try.prog) [impl_IsWhole.e]) 1 19 0 slices_IndexFunc.ls (lam [slices_IndexFunc.L2]) (cOf Try.f79 0)) (slices_IndexFunc.env2 s n v) (slices_IndexFunc.heap2 s n v) K) (fun v => K (.exit 0) (slices_IndexFunc.env2 s n v) (slices_IndexFunc.heap2 s n v)) (fun v => K .ret (slices_IndexFunc.envQ2 s n v) (slices_IndexFunc.heapQ2 s n v))) := by kernel_rfl
theorem slices_IndexFunc.dec2 (s : List Value) (n : Int) (v : Int) (hv : n = (s.length : Int) ∧ 0 ≤ v ∧ v ≤ (s.length : Int) ∧ (s.length : Int) ≤ 1048576) (v' : Int) (hr : slices_IndexFunc.rnd2 s n v = Sum.inl v') : (n = (s.length : Int) ∧ 0 ≤ v' ∧ v' ≤ (s.length : Int) ∧ (s.length : Int) ≤ 1048576) ∧ ((s.length : Int) - v').toNat < ((s.length : Int) - v).toNat := by
  exact dec_Index hv hr
theorem slices_IndexFunc.to2 : slices_IndexFunc.L2.Ok Try.prog (tab (P := Try.prog) [impl_IsWhole.e]) 1 19 0 slices_IndexFunc.ls (lam [slices_IndexFunc.L2]) (cOf Try.f79 0) := by
  intro R tm σ K r h
  simp only [slices_IndexFunc.L2] at h
  split at h
  case h_2 => simp at h
  split at h
  case h_2 => simp at h
  rename_i n i s _ hc
  exact caseR_ok h (loop_toR (x := 0) (rnd := (fun v : Int => slices_IndexFunc.rnd2 s n v)) (env := fun v : Int => slices_IndexFunc.env2 s n v) (heap := fun v : Int => slices_IndexFunc.heap2 s n v) (envQ := fun v => slices_IndexFunc.envQ2 s n v) (heapQ := fun v => slices_IndexFunc.heapQ2 s n v) (Inv := (fun v : Int => n = (s.length : Int) ∧ 0 ≤ v ∧ v ≤ (s.length : Int) ∧ (s.length : Int) ≤ 1048576)) (μ := (fun v : Int => ((s.length : Int) - v).toNat)) (fun v hv k R K => (slices_IndexFunc.step2 s n v k R K).trans (slices_IndexFunc.lt2_eq s n v hv (sumR (fun v => loopN Try.prog 1 slices_IndexFunc.ls k (exec Try.prog (tab (P := Try.prog) [impl_IsWhole.e]) 1 19 0 slices_IndexFunc.ls (lam [slices_IndexFunc.L2]) (cOf Try.f79 0)) (slices_IndexFunc.env2 s n v) (slices_IndexFunc.heap2 s n v) K) (fun v => K (.exit 0) (slices_IndexFunc.env2 s n v) (slices_IndexFunc.heap2 s n v)) (fun v => K .ret (slices_IndexFunc.envQ2 s n v) (slices_IndexFunc.heapQ2 s n v))))) (fun v hv v' hr => slices_IndexFunc.dec2 s n v hv v' hr) 1048577 i (by have := of_decide_eq_true hc; first | exact this | (simp only []; exact this)) (by have := of_decide_eq_true hc; first | omega | (simp only []; omega)))
theorem slices_IndexFunc.lok : ∀ c, Try.f79.body = some c → LamOk Try.prog (tab (P := Try.prog) [impl_IsWhole.e]) 1 Try.f79.ntmps 0 slices_IndexFunc.ls (lam [slices_IndexFunc.L2]) (loopsOf c) := by
  intro c hc
  have hb : loopsOf c = [(cOf Try.f79 0)] := by
    have h : loopsOf (Try.f79.body.getD .skip) = [(cOf Try.f79 0)] := by kernel_rfl
    rw [hc] at h
    exact h
  exact lam_ok1 hb slices_IndexFunc.to2
def slices_IndexFunc.t {ρ : Type} (s : List Value) (f : Unit) (K : Int → Option ρ) : Option ρ := bif decide ((s.length : Int) = (s.length : Int) ∧ 0 ≤ (0 : Int) ∧ (0 : Int) ≤ (s.length : Int) ∧ (s.length : Int) ≤ 1048576) then (caseR (fun t1 => K (-1)) (fun t2 => K t2.2) (slices_IndexFunc.fin2 s ((s.length : Int)) 0)) else none
theorem slices_IndexFunc.t_eq {ρ : Type} (s : List Value) (f : Unit) (hpre : (decide ((s.length : Int) ≤ 1048576)) = true) (K : Int → Option ρ) : slices_IndexFunc.t s f K = K (slices_IndexFunc s f) := cqT (by exact decide_eq_true (by have h9 := of_decide_eq_true hpre; omega)) (fun h0 => cqS (fun t1 => rfl) (fun t2 => rfl))
theorem slices_IndexFunc.gives (s : List Value) (f : Unit) (hpre : (decide ((s.length : Int) ≤ 1048576)) = true) : GivesA Try.prog 79 [(aL (.agg #[.int .i64 0, .int .i64 0]) 29).enc s, (aF 28).enc f] ((cInt .i64).enc (slices_IndexFunc s f)) :=
  givesA_L hmix [impl_IsWhole.e] 0 slices_IndexFunc.ls (lam [slices_IndexFunc.L2]) Try.func79 rfl slices_IndexFunc.lok ((by kernel_rfl : run1 Try.prog (tab [impl_IsWhole.e]) 0 slices_IndexFunc.ls (lam [slices_IndexFunc.L2]) Try.f79 (argVals 0 [(aL (.agg #[.int .i64 0, .int .i64 0]) 29).enc s, (aF 28).enc f]) (argBlocks [(aL (.agg #[.int .i64 0, .int .i64 0]) 29).enc s, (aF 28).enc f]) = slices_IndexFunc.t s f fun r => some ((cInt .i64).enc r, argBlocks [(aL (.agg #[.int .i64 0, .int .i64 0]) 29).enc s, (aF 28).enc f])).trans (slices_IndexFunc.t_eq s f hpre _))
def slices_IndexFunc.e : Entry Try.prog := entryA2 (aL (.agg #[.int .i64 0, .int .i64 0]) 29) (aF 28) (cInt .i64) 79 slices_IndexFunc (fun s f => decide ((s.length : Int) ≤ 1048576)) (fun s f h => slices_IndexFunc.gives s f h)

/-! ### impl.Interval] -/
def slices_ContainsFunc.t {ρ : Type} (s : List Value) (f : Unit) (K : Bool → Option ρ) : Option ρ := bif decide ((s.length : Int) ≤ 1048576) then (K (decide ((slices_IndexFunc s ()) ≥ 0))) else none
theorem slices_ContainsFunc.t_eq {ρ : Type} (s : List Value) (f : Unit) (hpre : (decide ((s.length : Int) ≤ 1048576)) = true) (K : Bool → Option ρ) : slices_ContainsFunc.t s f K = K (slices_ContainsFunc s f) := cqT (by exact hpre) (fun h0 => rfl)
theorem slices_ContainsFunc.gives (s : List Value) (f : Unit) (hpre : (decide ((s.length : Int) ≤ 1048576)) = true) : GivesA Try.prog 62 [(aL (.agg #[.int .i64 0, .int .i64 0]) 29).enc s, (aF 28).enc f] (cBool.enc (slices_ContainsFunc s f)) :=
  givesA_L hmix [slices_IndexFunc.e] 0 none noL Try.func62 rfl (fun _ _ => noL_ok) ((by kernel_rfl : run1 Try.prog (tab [slices_IndexFunc.e]) 0 none noL Try.f62 (argVals 0 [(aL (.agg #[.int .i64 0, .int .i64 0]) 29).enc s, (aF 28).enc f]) (argBlocks [(aL (.agg #[.int .i64 0, .int .i64 0]) 29).enc s, (aF 28).enc f]) = slices_ContainsFunc.t s f fun r => some (cBool.enc r, argBlocks [(aL (.agg #[.int .i64 0, .int .i64 0]) 29).enc s, (aF 28).enc f])).trans (slices_ContainsFunc.t_eq s f hpre _))
def slices_ContainsFunc.e : Entry Try.prog := entryA2 (aL (.agg #[.int .i64 0, .int .i64 0]) 29) (aF 28) cBool 62 slices_ContainsFunc (fun s f => decide ((s.length : Int) ≤ 1048576)) (fun s f h => slices_ContainsFunc.gives s f h)

/-! ### impl.ValidPoly -/
def impl_ValidPoly.t {ρ : Type} (list : List Value) (K : Bool → Option ρ) : Option ρ := bif decide ((list.length : Int) ≤ 1048576) then (bif (impl_within (impl_length list) 1 17) then (bif decide ((list.length : Int) ≤ 1048576) then (K (!(slices_ContainsFunc list ()))) else none) else (K false)) else none
theorem impl_ValidPoly.t_eq {ρ : Type} (list : List Value) (hpre : (decide ((list.length : Int) ≤ 1048576)) = true) (K : Bool → Option ρ) : impl_ValidPoly.t list K = K (impl_ValidPoly list) := cqT (by exact hpre) (fun h0 => cq (fun h1 => cqT (by exact hpre) (fun h2 => rfl)) (fun h1 => rfl))
theorem impl_ValidPoly.gives (list : List Value) (hpre : (decide ((list.length : Int) ≤ 1048576)) = true) : GivesA Try.prog 35 [(aL (.agg #[.int .i64 0, .int .i64 0]) 29).enc list] (cBool.enc (impl_ValidPoly list)) :=
  givesA_L hmix [impl_length.e, impl_within.e, slices_ContainsFunc.e] 0 none noL Try.func35 rfl (fun _ _ => noL_ok) ((by kernel_rfl : run1 Try.prog (tab [impl_length.e, impl_within.e, slices_ContainsFunc.e]) 0 none noL Try.f35 (argVals 0 [(aL (.agg #[.int .i64 0, .int .i64 0]) 29).enc list]) (argBlocks [(aL (.agg #[.int .i64 0, .int .i64 0]) 29).enc list]) = impl_ValidPoly.t list fun r => some (cBool.enc r, argBlocks [(aL (.agg #[.int .i64 0, .int .i64 0]) 29).enc list])).trans (impl_ValidPoly.t_eq list hpre _))
def impl_ValidPoly.e : Entry Try.prog := entryA1 (aL (.agg #[.int .i64 0, .int .i64 0]) 29) cBool 35 impl_ValidPoly (fun list => decide ((list.length : Int) ≤ 1048576)) (fun list h => impl_ValidPoly.gives list h)

/-! ### impl.Whole -/
def impl_Whole.t {ρ : Type} (K : Iv → Option ρ) : Option ρ := K (Iv.mk (-1152921504606846976) 1152921504606846976)
theorem impl_Whole.t_eq {ρ : Type} (K : Iv → Option ρ) : impl_Whole.t K = K impl_Whole := rfl
theorem impl_Whole.gives : GivesV Try.prog 64 [] (cIv.enc impl_Whole) :=
  givesT hmix [] 0 none Try.func64 rfl rfl ((by kernel_rfl : run1 Try.prog (tab []) 0 none noL Try.f64 [] [] = impl_Whole.t fun r => some (cIv.enc r, [])).trans (impl_Whole.t_eq _))
def impl_Whole.e : Entry Try.prog := entry0 cIv 64 impl_Whole impl_Whole.gives

/-! ### impl.bounded -/
def impl_bounded.t {ρ : Type} (lo_0 : Int) (hi_1 : Int) (ok : Bool) (K : Iv → Option ρ) : Option ρ := bif ok then (bif (impl_ValidInterval (Iv.mk lo_0 hi_1)) then (K (Iv.mk lo_0 hi_1)) else (K impl_Whole)) else (K impl_Whole)
theorem impl_bounded.t_eq {ρ : Type} (lo_0 : Int) (hi_1 : Int) (ok : Bool) (K : Iv → Option ρ) : impl_bounded.t lo_0 hi_1 ok K = K (impl_bounded lo_0 hi_1 ok) := cq (fun h0 => cq (fun h1 => rfl) (fun h1 => rfl)) (fun h0 => rfl)
theorem impl_bounded.gives (lo_0 : Int) (hi_1 : Int) (ok : Bool) : GivesV Try.prog 65 [(cInt .i64).enc lo_0, (cInt .i64).enc hi_1, cBool.enc ok] (cIv.enc (impl_bounded lo_0 hi_1 ok)) :=
  givesT hmix [impl_ValidInterval.e, impl_Whole.e] 0 none Try.func65 rfl rfl ((by kernel_rfl : run1 Try.prog (tab [impl_ValidInterval.e, impl_Whole.e]) 0 none noL Try.f65 [(cInt .i64).enc lo_0, (cInt .i64).enc hi_1, cBool.enc ok] [] = impl_bounded.t lo_0 hi_1 ok fun r => some (cIv.enc r, [])).trans (impl_bounded.t_eq lo_0 hi_1 ok _))
def impl_bounded.e : Entry Try.prog := entry3 (cInt .i64) (cInt .i64) cBool cIv 65 impl_bounded impl_bounded.gives

/-! ### impl.Integer -/
def impl_Integer.t {ρ : Type} (n : Int) (K : Iv → Option ρ) : Option ρ := bif (!(impl_within n (-268435456) 268435456)) then (K impl_Whole) else (K (impl_bounded (w64 (n * 4294967296)) (w64 (n * 4294967296)) true))
theorem impl_Integer.t_eq {ρ : Type} (n : Int) (K : Iv → Option ρ) : impl_Integer.t n K = K (impl_Integer n) := cq (fun h0 => rfl) (fun h0 => rfl)
theorem impl_Integer.gives (n : Int) : GivesV Try.prog 71 [(cInt .i64).enc n] (cIv.enc (impl_Integer n)) :=
  givesT hmix [impl_within.e, impl_Whole.e, impl_bounded.e] 0 none Try.func71 rfl rfl ((by kernel_rfl : run1 Try.prog (tab [impl_within.e, impl_Whole.e, impl_bounded.e]) 0 none noL Try.f71 [(cInt .i64).enc n] [] = impl_Integer.t n fun r => some (cIv.enc r, [])).trans (impl_Integer.t_eq n _))
def impl_Integer.e : Entry Try.prog := entry1 (cInt .i64) cIv 71 impl_Integer impl_Integer.gives

/-! ### impl.areBounded -/
def impl_areBounded.t {ρ : Type} (a : Iv) (b : Iv) (K : Bool → Option ρ) : Option ρ := bif (impl_ValidInterval a) then (K (impl_ValidInterval b)) else (K false)
theorem impl_areBounded.t_eq {ρ : Type} (a : Iv) (b : Iv) (K : Bool → Option ρ) : impl_areBounded.t a b K = K (impl_areBounded a b) := cq (fun h0 => rfl) (fun h0 => rfl)
theorem impl_areBounded.gives (a : Iv) (b : Iv) : GivesV Try.prog 63 [cIv.enc a, cIv.enc b] (cBool.enc (impl_areBounded a b)) :=
  givesT hmix [impl_ValidInterval.e] 0 none Try.func63 rfl rfl ((by kernel_rfl : run1 Try.prog (tab [impl_ValidInterval.e]) 0 none noL Try.f63 [cIv.enc a, cIv.enc b] [] = impl_areBounded.t a b fun r => some (cBool.enc r, [])).trans (impl_areBounded.t_eq a b _))
def impl_areBounded.e : Entry Try.prog := entry2 cIv cIv cBool 63 impl_areBounded impl_areBounded.gives

/-! ### impl.ValidFix -/
def impl_ValidFix.t {ρ : Type} (n : Int) (K : Bool → Option ρ) : Option ρ := K (impl_within n (-1152921504606846976) 1152921504606846976)
theorem impl_ValidFix.t_eq {ρ : Type} (n : Int) (K : Bool → Option ρ) : impl_ValidFix.t n K = K (impl_ValidFix n) := rfl
theorem impl_ValidFix.gives (n : Int) : GivesV Try.prog 80 [(cInt .i64).enc n] (cBool.enc (impl_ValidFix n)) :=
  givesT hmix [impl_within.e] 0 none Try.func80 rfl rfl ((by kernel_rfl : run1 Try.prog (tab [impl_within.e]) 0 none noL Try.f80 [(cInt .i64).enc n] [] = impl_ValidFix.t n fun r => some (cBool.enc r, [])).trans (impl_ValidFix.t_eq n _))
def impl_ValidFix.e : Entry Try.prog := entry1 (cInt .i64) cBool 80 impl_ValidFix impl_ValidFix.gives

/-! ### bits.Mul64 -/
def bits_Mul64.t {ρ : Type} (x : Int) (y : Int) (K : (Int × Int) → Option ρ) : Option ρ := let x2 := (u64 ((u64 ((Int.fdiv x 4294967296) * (andI .u64 y 4294967295))) + (Int.fdiv (u64 ((andI .u64 x 4294967295) * (andI .u64 y 4294967295))) 4294967296))); K ((u64 ((u64 ((u64 ((Int.fdiv x 4294967296) * (Int.fdiv y 4294967296))) + (Int.fdiv x2 4294967296))) + (Int.fdiv (u64 ((andI .u64 x2 4294967295) + (u64 ((andI .u64 x 4294967295) * (Int.fdiv y 4294967296))))) 4294967296))), (u64 (x * y)))
theorem bits_Mul64.t_eq {ρ : Type} (x : Int) (y : Int) (K : (Int × Int) → Option ρ) : bits_Mul64.t x y K = K (bits_Mul64 x y) := rfl
theorem bits_Mul64.gives (x : Int) (y : Int) : GivesV Try.prog 97 [(cInt .u64).enc x, (cInt .u64).enc y] ((cT2 (cInt .u64) (cInt .u64)).enc (bits_Mul64 x y)) :=
  givesT hmix [] 0 none Try.func97 rfl rfl ((by kernel_rfl : run1 Try.prog (tab []) 0 none noL Try.f97 [(cInt .u64).enc x, (cInt .u64).enc y] [] = bits_Mul64.t x y fun r => some ((cT2 (cInt .u64) (cInt .u64)).enc r, [])).trans (bits_Mul64.t_eq x y _))
def bits_Mul64.e : Entry Try.prog := entry2 (cInt .u64) (cInt .u64) (cT2 (cInt .u64) (cInt .u64)) 97 bits_Mul64 bits_Mul64.gives

/-! ### impl.WideMul -/
def impl_WideMul.t {ρ : Type} (a : Int) (b : Int) (K : Wd → Option ρ) : Option ρ := let t1 := (bits_Mul64 (u64 a) (u64 b)); bif decide (a < 0) then (bif decide (b < 0) then (K (Wd.mk (w64 (u64 ((u64 (t1.1 - (u64 b))) - (u64 a)))) t1.2)) else (K (Wd.mk (w64 (u64 (t1.1 - (u64 b)))) t1.2))) else (bif decide (b < 0) then (K (Wd.mk (w64 (u64 (t1.1 - (u64 a)))) t1.2)) else (K (Wd.mk (w64 t1.1) t1.2)))
theorem impl_WideMul.t_eq {ρ : Type} (a : Int) (b : Int) (K : Wd → Option ρ) : impl_WideMul.t a b K = K (impl_WideMul a b) := cq (fun h0 => cq (fun h1 => rfl) (fun h1 => rfl)) (fun h0 => cq (fun h1 => rfl) (fun h1 => rfl))
theorem impl_WideMul.gives (a : Int) (b : Int) : GivesV Try.prog 90 [(cInt .i64).enc a, (cInt .i64).enc b] (cWd.enc (impl_WideMul a b)) :=
  givesT hmix [bits_Mul64.e] 0 none Try.func90 rfl rfl ((by kernel_rfl : run1 Try.prog (tab [bits_Mul64.e]) 0 none noL Try.f90 [(cInt .i64).enc a, (cInt .i64).enc b] [] = impl_WideMul.t a b fun r => some (cWd.enc r, [])).trans (impl_WideMul.t_eq a b _))
def impl_WideMul.e : Entry Try.prog := entry2 (cInt .i64) (cInt .i64) cWd 90 impl_WideMul impl_WideMul.gives

/-! ### impl.WideShift -/
def impl_WideShift.t {ρ : Type} (w : Wd) (n : Int) (K : Wd → Option ρ) : Option ρ := bif (!(impl_within n 0 127)) then (K (Wd.mk 0 0)) else (bif decide (n ≥ 64) then (bif decide ((w64 (n - 64)) < 0) then none else (K (Wd.mk (Int.fdiv w.hi 9223372036854775808) (u64 (Int.fdiv w.hi (2 ^ (min (Int.toNat (w64 (n - 64))) 64))))))) else (bif decide (n < 0) then none else (bif decide (n < 0) then none else (bif decide ((w64 (64 - n)) < 0) then none else (K (Wd.mk (Int.fdiv w.hi (2 ^ (min (Int.toNat n) 64))) (orI .u64 (Int.fdiv w.lo (2 ^ (min (Int.toNat n) 64))) (u64 ((u64 w.hi) * (2 ^ (min (Int.toNat (w64 (64 - n))) 64)))))))))))
theorem impl_WideShift.t_eq {ρ : Type} (w : Wd) (n : Int) (K : Wd → Option ρ) : impl_WideShift.t w n K = K (impl_WideShift w n) := cq (fun h0 => rfl) (fun h0 => cq (fun h1 => cqF (by first | exact u64_neg _ | (simp only [decide_eq_true_eq, decide_eq_false_iff_not] at *; omega) | (simp only [Bool.not_eq_eq_eq_not, Bool.not_false, inside_iff, l00In_iff, decide_eq_true_eq, decide_eq_false_iff_not, w64_def, u64_def] at *; omega)) (fun h2 => rfl)) (fun h1 => cqF (by first | exact u64_neg _ | (simp only [decide_eq_true_eq, decide_eq_false_iff_not] at *; omega) | (simp only [Bool.not_eq_eq_eq_not, Bool.not_false, inside_iff, l00In_iff, decide_eq_true_eq, decide_eq_false_iff_not, w64_def, u64_def] at *; omega)) (fun h2 => cqF (by first | exact u64_neg _ | (simp only [decide_eq_true_eq, decide_eq_false_iff_not] at *; omega) | (simp only [Bool.not_eq_eq_eq_not, Bool.not_false, inside_iff, l00In_iff, decide_eq_true_eq, decide_eq_false_iff_not, w64_def, u64_def] at *; omega)) (fun h3 => cqF (by first | exact u64_neg _ | (simp only [decide_eq_true_eq, decide_eq_false_iff_not] at *; omega) | (simp only [Bool.not_eq_eq_eq_not, Bool.not_false, inside_iff, l00In_iff, decide_eq_true_eq, decide_eq_false_iff_not, w64_def, u64_def] at *; omega)) (fun h4 => rfl)))))
theorem impl_WideShift.gives (w : Wd) (n : Int) : GivesV Try.prog 89 [cWd.enc w, (cInt .i64).enc n] (cWd.enc (impl_WideShift w n)) :=
  givesT hmix [impl_within.e] 0 none Try.func89 rfl rfl ((by kernel_rfl : run1 Try.prog (tab [impl_within.e]) 0 none noL Try.f89 [cWd.enc w, (cInt .i64).enc n] [] = impl_WideShift.t w n fun r => some (cWd.enc r, [])).trans (impl_WideShift.t_eq w n _))
def impl_WideShift.e : Entry Try.prog := entry2 cWd (cInt .i64) cWd 89 impl_WideShift impl_WideShift.gives

/-! ### impl.WideOf -/
def impl_WideOf.t {ρ : Type} (n : Int) (K : Wd → Option ρ) : Option ρ := K (Wd.mk (Int.fdiv n 9223372036854775808) (u64 n))
theorem impl_WideOf.t_eq {ρ : Type} (n : Int) (K : Wd → Option ρ) : impl_WideOf.t n K = K (impl_WideOf n) := rfl
theorem impl_WideOf.gives (n : Int) : GivesV Try.prog 96 [(cInt .i64).enc n] (cWd.enc (impl_WideOf n)) :=
  givesT hmix [] 0 none Try.func96 rfl rfl ((by kernel_rfl : run1 Try.prog (tab []) 0 none noL Try.f96 [(cInt .i64).enc n] [] = impl_WideOf.t n fun r => some (cWd.enc r, [])).trans (impl_WideOf.t_eq n _))
def impl_WideOf.e : Entry Try.prog := entry1 (cInt .i64) cWd 96 impl_WideOf impl_WideOf.gives

/-! ### impl.WideInt -/
def impl_WideInt.t {ρ : Type} (w : Wd) (K : (Int × Bool) → Option ρ) : Option ρ := let t1 := (impl_WideOf (w64 w.lo)); bif (!((t1.hi == w.hi) && (t1.lo == w.lo))) then (K (0, false)) else (K ((w64 w.lo), true))
theorem impl_WideInt.t_eq {ρ : Type} (w : Wd) (K : (Int × Bool) → Option ρ) : impl_WideInt.t w K = K (impl_WideInt w) := cq (fun h0 => rfl) (fun h0 => rfl)
theorem impl_WideInt.gives (w : Wd) : GivesV Try.prog 88 [cWd.enc w] ((cT2 (cInt .i64) cBool).enc (impl_WideInt w)) :=
  givesT hmix [impl_WideOf.e] 0 none Try.func88 rfl rfl ((by kernel_rfl : run1 Try.prog (tab [impl_WideOf.e]) 0 none noL Try.f88 [cWd.enc w] [] = impl_WideInt.t w fun r => some ((cT2 (cInt .i64) cBool).enc r, [])).trans (impl_WideInt.t_eq w _))
def impl_WideInt.e : Entry Try.prog := entry1 cWd (cT2 (cInt .i64) cBool) 88 impl_WideInt impl_WideInt.gives

/-! ### impl.MulFloor -/
def impl_MulFloor.t {ρ : Type} (a : Int) (b : Int) (shift : Int) (K : (Int × Bool) → Option ρ) : Option ρ := bif (!(impl_within shift 0 126)) then (K (0, false)) else (let t4 := (impl_WideInt (impl_WideShift (impl_WideMul a b) shift)); K (t4.1, t4.2))
theorem impl_MulFloor.t_eq {ρ : Type} (a : Int) (b : Int) (shift : Int) (K : (Int × Bool) → Option ρ) : impl_MulFloor.t a b shift K = K (impl_MulFloor a b shift) := cq (fun h0 => rfl) (fun h0 => rfl)
theorem impl_MulFloor.gives (a : Int) (b : Int) (shift : Int) : GivesV Try.prog 82 [(cInt .i64).enc a, (cInt .i64).enc b, (cInt .i64).enc shift] ((cT2 (cInt .i64) cBool).enc (impl_MulFloor a b shift)) :=
  givesT hmix [impl_within.e, impl_WideMul.e, impl_WideShift.e, impl_WideInt.e] 0 none Try.func82 rfl rfl ((by kernel_rfl : run1 Try.prog (tab [impl_within.e, impl_WideMul.e, impl_WideShift.e, impl_WideInt.e]) 0 none noL Try.f82 [(cInt .i64).enc a, (cInt .i64).enc b, (cInt .i64).enc shift] [] = impl_MulFloor.t a b shift fun r => some ((cT2 (cInt .i64) cBool).enc r, [])).trans (impl_MulFloor.t_eq a b shift _))
def impl_MulFloor.e : Entry Try.prog := entry3 (cInt .i64) (cInt .i64) (cInt .i64) (cT2 (cInt .i64) cBool) 82 impl_MulFloor impl_MulFloor.gives

/-! ### impl.fixed -/
def impl_fixed.t {ρ : Type} (n : Int) (ok : Bool) (K : (Int × Bool) → Option ρ) : Option ρ := bif (!ok) then (K (0, false)) else (bif (!(impl_ValidFix n)) then (K (0, false)) else (K (n, true)))
theorem impl_fixed.t_eq {ρ : Type} (n : Int) (ok : Bool) (K : (Int × Bool) → Option ρ) : impl_fixed.t n ok K = K (impl_fixed n ok) := cq (fun h0 => rfl) (fun h0 => cq (fun h1 => rfl) (fun h1 => rfl))
theorem impl_fixed.gives (n : Int) (ok : Bool) : GivesV Try.prog 81 [(cInt .i64).enc n, cBool.enc ok] ((cT2 (cInt .i64) cBool).enc (impl_fixed n ok)) :=
  givesT hmix [impl_ValidFix.e] 0 none Try.func81 rfl rfl ((by kernel_rfl : run1 Try.prog (tab [impl_ValidFix.e]) 0 none noL Try.f81 [(cInt .i64).enc n, cBool.enc ok] [] = impl_fixed.t n ok fun r => some ((cT2 (cInt .i64) cBool).enc r, [])).trans (impl_fixed.t_eq n ok _))
def impl_fixed.e : Entry Try.prog := entry2 (cInt .i64) cBool (cT2 (cInt .i64) cBool) 81 impl_fixed impl_fixed.gives

/-! ### impl.MulDown -/
def impl_MulDown.t {ρ : Type} (a : Int) (b : Int) (K : (Int × Bool) → Option ρ) : Option ρ := bif (!(impl_ValidFix a)) then (K (0, false)) else (bif (!(impl_ValidFix b)) then (K (0, false)) else (let t3 := (impl_MulFloor a b 32); let t4 := (impl_fixed t3.1 t3.2); K (t4.1, t4.2)))
theorem impl_MulDown.t_eq {ρ : Type} (a : Int) (b : Int) (K : (Int × Bool) → Option ρ) : impl_MulDown.t a b K = K (impl_MulDown a b) := cq (fun h0 => rfl) (fun h0 => cq (fun h1 => rfl) (fun h1 => rfl))
theorem impl_MulDown.gives (a : Int) (b : Int) : GivesV Try.prog 67 [(cInt .i64).enc a, (cInt .i64).enc b] ((cT2 (cInt .i64) cBool).enc (impl_MulDown a b)) :=
  givesT hmix [impl_ValidFix.e, impl_MulFloor.e, impl_fixed.e] 0 none Try.func67 rfl rfl ((by kernel_rfl : run1 Try.prog (tab [impl_ValidFix.e, impl_MulFloor.e, impl_fixed.e]) 0 none noL Try.f67 [(cInt .i64).enc a, (cInt .i64).enc b] [] = impl_MulDown.t a b fun r => some ((cT2 (cInt .i64) cBool).enc r, [])).trans (impl_MulDown.t_eq a b _))
def impl_MulDown.e : Entry Try.prog := entry2 (cInt .i64) (cInt .i64) (cT2 (cInt .i64) cBool) 67 impl_MulDown impl_MulDown.gives

/-! ### impl.MulUp -/
def impl_MulUp.t {ρ : Type} (a : Int) (b : Int) (K : (Int × Bool) → Option ρ) : Option ρ := bif (!(impl_ValidFix a)) then (K (0, false)) else (bif (!(impl_ValidFix b)) then (K (0, false)) else (let t3 := (impl_MulDown (w64 (0 - a)) b); K ((w64 (0 - t3.1)), t3.2)))
theorem impl_MulUp.t_eq {ρ : Type} (a : Int) (b : Int) (K : (Int × Bool) → Option ρ) : impl_MulUp.t a b K = K (impl_MulUp a b) := cq (fun h0 => rfl) (fun h0 => cq (fun h1 => rfl) (fun h1 => rfl))
theorem impl_MulUp.gives (a : Int) (b : Int) : GivesV Try.prog 68 [(cInt .i64).enc a, (cInt .i64).enc b] ((cT2 (cInt .i64) cBool).enc (impl_MulUp a b)) :=
  givesT hmix [impl_ValidFix.e, impl_MulDown.e] 0 none Try.func68 rfl rfl ((by kernel_rfl : run1 Try.prog (tab [impl_ValidFix.e, impl_MulDown.e]) 0 none noL Try.f68 [(cInt .i64).enc a, (cInt .i64).enc b] [] = impl_MulUp.t a b fun r => some ((cT2 (cInt .i64) cBool).enc r, [])).trans (impl_MulUp.t_eq a b _))
def impl_MulUp.e : Entry Try.prog := entry2 (cInt .i64) (cInt .i64) (cT2 (cInt .i64) cBool) 68 impl_MulUp impl_MulUp.gives

/-! ### impl.MulI -/
def impl_MulI.t {ρ : Type} (a : Iv) (b : Iv) (K : Iv → Option ρ) : Option ρ := bif (!(impl_areBounded a b)) then (K impl_Whole) else (let t3 := (impl_MulDown a.lo b.lo); let t4 := (impl_MulUp a.lo b.lo); bif (!t3.2) then (K impl_Whole) else (bif (!t4.2) then (K impl_Whole) else (let t7 := (impl_MulDown a.lo b.hi); let t8 := (impl_MulUp a.lo b.hi); bif (!t7.2) then (K impl_Whole) else (bif (!t8.2) then (K impl_Whole) else (let t11 := (impl_MulDown a.hi b.lo); let t12 := (impl_MulUp a.hi b.lo); bif (!t11.2) then (K impl_Whole) else (bif (!t12.2) then (K impl_Whole) else (let t15 := (impl_MulDown a.hi b.hi); let t16 := (impl_MulUp a.hi b.hi); bif (!t15.2) then (K impl_Whole) else (bif (!t16.2) then (K impl_Whole) else (K (impl_bounded (mnI (mnI (mnI (mnI t3.1 t3.1) t7.1) t11.1) t15.1) (mxI (mxI (mxI (mxI t4.1 t4.1) t8.1) t12.1) t16.1) true))))))))))
theorem impl_MulI.t_eq {ρ : Type} (a : Iv) (b : Iv) (K : Iv → Option ρ) : impl_MulI.t a b K = K (impl_MulI a b) := cq (fun h0 => rfl) (fun h0 => cq (fun h1 => rfl) (fun h1 => cq (fun h2 => rfl) (fun h2 => cq (fun h3 => rfl) (fun h3 => cq (fun h4 => rfl) (fun h4 => cq (fun h5 => rfl) (fun h5 => cq (fun h6 => rfl) (fun h6 => cq (fun h7 => rfl) (fun h7 => cq (fun h8 => rfl) (fun h8 => rfl)))))))))
theorem impl_MulI.gives (a : Iv) (b : Iv) : GivesV Try.prog 37 [cIv.enc a, cIv.enc b] (cIv.enc (impl_MulI a b)) :=
  givesT hmix [impl_areBounded.e, impl_Whole.e, (inl hmix [impl_MulDown.e, impl_MulUp.e, impl_Whole.e, impl_bounded.e] 3 66 Try.f66 Try.func66 rfl)] 3 none Try.func37 rfl rfl ((by kernel_rfl : run1 Try.prog (tab [impl_areBounded.e, impl_Whole.e, (inl hmix [impl_MulDown.e, impl_MulUp.e, impl_Whole.e, impl_bounded.e] 3 66 Try.f66 Try.func66 rfl)]) 3 none noL Try.f37 [cIv.enc a, cIv.enc b] [] = impl_MulI.t a b fun r => some (cIv.enc r, [])).trans (impl_MulI.t_eq a b _))
def impl_MulI.e : Entry Try.prog := entry2 cIv cIv cIv 37 impl_MulI impl_MulI.gives

/-! ### impl.PolyDerivative -/
def impl_PolyDerivative.ls : Option (List Nat) := some [4, 16, 17, 18, 1000000, 3029004]
def impl_PolyDerivative.env7 (list : List Value) (n : Int) (v : Int × List Value) : Env := [(4, .slice (some ⟨1, 0, some 0⟩) 0 0), (16, .slice (some ⟨0, 1, some 0⟩) 0 0), (17, .int .i64 n), (18, .int .i64 v.1)]
def impl_PolyDerivative.heap7 (list : List Value) (n : Int) (v : Int × List Value) : LH := [(lstC list false (.agg #[.int .i64 0, .int .i64 0]), 29), (lstC v.2 true (.agg #[.int .i64 0, .int .i64 0]), 29)]
def impl_PolyDerivative.L7 : LEntry := ⟨7, fun _ tm σ K => match tm, σ with
  | [(4, .slice (some ⟨1, 0, some 0⟩) 0 0), (16, .slice (some ⟨0, 1, some 0⟩) 0 0), (17, .int .i64 n), (18, .int .i64 i)], [(⟨[.tuple ⟨list⟩, .bool false, .agg ⟨[.int .i64 0, .int .i64 0]⟩]⟩, 29), (⟨[.tuple ⟨out⟩, .bool true, .agg ⟨[.int .i64 0, .int .i64 0]⟩]⟩, 29)] => (match decide (n = ((list.length - 1 : Nat) : Int) ∧ 0 ≤ i ∧ i ≤ ((list.length - 1 : Nat) : Int) ∧ (out.length : Int) = i ∧ (list.length : Int) ≤ 1048576) with | true => K (.exit 0) (impl_PolyDerivative.env7 list n (impl_PolyDerivative.fin7 list n (i, out))) (impl_PolyDerivative.heap7 list n (impl_PolyDerivative.fin7 list n (i, out))) | false => none)
  | _, _ => none⟩
def impl_PolyDerivative.lt7 {ρ : Type} (list : List Value) (n : Int) (i : Int) (out : List Value) (K : Sum (Int × List Value) (Int × List Value) → Option ρ) : Option ρ := bif decide (i < n) then (bif decide (0 ≤ i ∧ i < ((list.length - 1 : Nat) : Int)) then (bif decide (((Int.toNat i) + 1) < list.length) then (let t4 := (impl_MulI (impl_Integer (w64 (i + 1))) (atIvN list false (((Int.toNat i) + 1)))); bif decide ((out.length + 1) * 16 ≤ 140737488355328) then (K (Sum.inl ((w64 (i + 1)), ((Value.agg #[.int .i64 t4.lo, .int .i64 t4.hi]) :: out)))) else none) else none) else none) else (K (Sum.inr (i, out)))
theorem impl_PolyDerivative.lt7_eq {ρ : Type} (list : List Value) (n : Int) (i : Int) (out : List Value) (hpre : n = ((list.length - 1 : Nat) : Int) ∧ 0 ≤ i ∧ i ≤ ((list.length - 1 : Nat) : Int) ∧ (out.length : Int) = i ∧ (list.length : Int) ≤ 1048576) (K : Sum (Int × List Value) (Int × List Value) → Option ρ) : impl_PolyDerivative.lt7 list n i out K = K (impl_PolyDerivative.rnd7 list n i out) := cq (fun h0 => cqT (by exact decide_eq_true (by have h9 := of_decide_eq_true h0; omega)) (fun h1 => cqT (by exact decide_eq_true (by have h9 := of_decide_eq_true h0; omega)) (fun h2 => cqT (by exact decide_eq_true (by have h9 := of_decide_eq_true h0; omega)) (fun h3 => rfl)))) (fun h0 => rfl)
theorem impl_PolyDerivative.step7 (list : List Value) (n : Int) (i : Int) (out : List Value) (k : Nat) (R : Type) (K : LX → Env → LH → Option R) : loopN Try.prog 1 impl_PolyDerivative.ls (k + 1) (exec Try.prog (tab (P := Try.prog) [impl_ValidPoly.e, impl_Integer.e, impl_MulI.e, (inl hmix [slices_ContainsFunc.e] 1 38 Try.f38 Try.func38 rfl)]) 1 36 0 impl_PolyDerivative.ls (lam [impl_PolyDerivative.L7]) (cOf Try.f41 0)) (impl_PolyDerivative.env7 list n (i, out)) (impl_PolyDerivative.heap7 list n (i, out)) K = impl_PolyDerivative.lt7 list n i out (sumK (fun v => loopN Try.prog 1 impl_PolyDerivative.ls k (exec Try.prog (tab (P := Try.prog) [impl_ValidPoly.e, impl_Integer.e, impl_MulI.e, (inl hmix [slices_ContainsFunc.e] 1 38 Try.f38 Try.func38 rfl)]) 1 36 0 impl_PolyDerivative.ls (lam [impl_PolyDerivative.L7]) (cOf Try.f41 0)) (impl_PolyDerivative.env7 list n v) (impl_PolyDerivative.heap7 list n v) K) (fun v => K (.exit 0) (impl_PolyDerivative.env7 list n v) (impl_PolyDerivative.heap7 list n v))) := by kernel_rfl
theorem impl_PolyDerivative.dec7 (list : List Value) (n : Int) (v : Int × List Value) (hv : n = ((list.length - 1 : Nat) : Int) ∧ 0 ≤ v.1 ∧ v.1 ≤ ((list.length - 1 : Nat) : Int) ∧ (v.2.length : Int) = v.1 ∧ (list.length : Int) ≤ 1048576) (v' : Int × List Value) (hr : impl_PolyDerivative.rnd7 list n v.1 v.2 = Sum.inl v') : (n = ((list.length - 1 : Nat) : Int) ∧ 0 ≤ v'.1 ∧ v'.1 ≤ ((list.length - 1 : Nat) : Int) ∧ (v'.2.length : Int) = v'.1 ∧ (list.length : Int) ≤ 1048576) ∧ (((list.length - 1 : Nat) : Int) - v'.1).toNat < (((list.length - 1 : Nat) : Int) - v.1).toNat := by
  exact dec_ider hv hr
theorem impl_PolyDerivative.to7 : impl_PolyDerivative.L7.Ok Try.prog (tab (P := Try.prog) [impl_ValidPoly.e, impl_Integer.e, impl_MulI.e, (inl hmix [slices_ContainsFunc.e] 1 38 Try.f38 Try.func38 rfl)]) 1 36 0 impl_PolyDerivative.ls (lam [impl_PolyDerivative.L7]) (cOf Try.f41 0) := by
  intro R tm σ K r h
  simp only [impl_PolyDerivative.L7] at h
  split at h
  case h_2 => simp at h
  split at h
  case h_2 => simp at h
  rename_i n i list out _ hc
  exact ⟨_, _, _, h, loop_to (x := 0) (rnd := (fun v : Int × List Value => impl_PolyDerivative.rnd7 list n v.1 v.2)) (env := fun v : Int × List Value => impl_PolyDerivative.env7 list n v) (heap := fun v : Int × List Value => impl_PolyDerivative.heap7 list n v) (Inv := (fun v : Int × List Value => n = ((list.length - 1 : Nat) : Int) ∧ 0 ≤ v.1 ∧ v.1 ≤ ((list.length - 1 : Nat) : Int) ∧ (v.2.length : Int) = v.1 ∧ (list.length : Int) ≤ 1048576)) (μ := (fun v : Int × List Value => (((list.length - 1 : Nat) : Int) - v.1).toNat)) (fun v hv k R K => (impl_PolyDerivative.step7 list n v.1 v.2 k R K).trans (impl_PolyDerivative.lt7_eq list n v.1 v.2 hv (sumK (fun v => loopN Try.prog 1 impl_PolyDerivative.ls k (exec Try.prog (tab (P := Try.prog) [impl_ValidPoly.e, impl_Integer.e, impl_MulI.e, (inl hmix [slices_ContainsFunc.e] 1 38 Try.f38 Try.func38 rfl)]) 1 36 0 impl_PolyDerivative.ls (lam [impl_PolyDerivative.L7]) (cOf Try.f41 0)) (impl_PolyDerivative.env7 list n v) (impl_PolyDerivative.heap7 list n v) K) (fun v => K (.exit 0) (impl_PolyDerivative.env7 list n v) (impl_PolyDerivative.heap7 list n v))))) (fun v hv v' hr => impl_PolyDerivative.dec7 list n v hv v' hr) 1048577 (i, out) (by have := of_decide_eq_true hc; first | exact this | (simp only []; exact this)) (by have := of_decide_eq_true hc; first | omega | (simp only []; omega))⟩
theorem impl_PolyDerivative.lok : ∀ c, Try.f41.body = some c → LamOk Try.prog (tab (P := Try.prog) [impl_ValidPoly.e, impl_Integer.e, impl_MulI.e, (inl hmix [slices_ContainsFunc.e] 1 38 Try.f38 Try.func38 rfl)]) 1 Try.f41.ntmps 0 impl_PolyDerivative.ls (lam [impl_PolyDerivative.L7]) (loopsOf c) := by
  intro c hc
  have hb : loopsOf c = [(cOf Try.f41 0)] := by
    have h : loopsOf (Try.f41.body.getD .skip) = [(cOf Try.f41 0)] := by kernel_rfl
    rw [hc] at h
    exact h
  exact lam_ok1 hb impl_PolyDerivative.to7
def impl_PolyDerivative.t {ρ : Type} (list : List Value) (K : (List Value × Int) → Option ρ) : Option ρ := bif decide ((list.length : Int) ≤ 1048576) then (bif (!(impl_ValidPoly list)) then (K (([] : List Value), 1)) else (bif ((list.length : Int) == 1) then (let t2 := (impl_Integer 0); K ([(Value.agg #[.int .i64 t2.lo, .int .i64 t2.hi])], 0)) else (bif decide (0 ≤ (1 : Int) ∧ (1 : Int) < (list.length : Int)) then (bif decide (((list.length - 1 : Nat) : Int) = ((list.length - 1 : Nat) : Int) ∧ 0 ≤ (0 : Int) ∧ (0 : Int) ≤ ((list.length - 1 : Nat) : Int) ∧ (([] : List Value).length : Int) = (0 : Int) ∧ (list.length : Int) ≤ 1048576) then (let t3 := (impl_PolyDerivative.fin7 list (((list.length - 1 : Nat) : Int)) (0, ([] : List Value))); bif decide (((List.reverse t3.2).length : Int) ≤ 1048576) then (bif (slices_ContainsFunc (List.reverse t3.2) ()) then (K (([] : List Value), 9)) else (K (t3.2, 0))) else none) else none) else none))) else none
theorem impl_PolyDerivative.t_eq {ρ : Type} (list : List Value) (hpre : (decide ((list.length : Int) ≤ 1048576)) = true) (K : (List Value × Int) → Option ρ) : impl_PolyDerivative.t list K = K (impl_PolyDerivative list) := cqT (by first | exact hpre | exact pd_ider1 hpre h1 h2 | exact pd_ider2 hpre | exact pd_ider3 hpre h1) (fun h0 => cq (fun h1 => rfl) (fun h1 => cq (fun h2 => rfl) (fun h2 => cqT (by first | exact hpre | exact pd_ider1 hpre h1 h2 | exact pd_ider2 hpre | exact pd_ider3 hpre h1) (fun h3 => cqT (by first | exact hpre | exact pd_ider1 hpre h1 h2 | exact pd_ider2 hpre | exact pd_ider3 hpre h1) (fun h4 => cqT (by first | exact hpre | exact pd_ider1 hpre h1 h2 | exact pd_ider2 hpre | exact pd_ider3 hpre h1) (fun h5 => cq (fun h6 => rfl) (fun h6 => rfl)))))))
theorem impl_PolyDerivative.gives (list : List Value) (hpre : (decide ((list.length : Int) ≤ 1048576)) = true) : GivesAR2 Try.prog 41 [(aL (.agg #[.int .i64 0, .int .i64 0]) 29).enc list] (.agg #[.int .i64 0, .int .i64 0]) 29 (impl_PolyDerivative list).1 ((cInt .i64).enc (impl_PolyDerivative list).2) :=
  givesAR2_L hmix [impl_ValidPoly.e, impl_Integer.e, impl_MulI.e, (inl hmix [slices_ContainsFunc.e] 1 38 Try.f38 Try.func38 rfl)] 0 impl_PolyDerivative.ls (lam [impl_PolyDerivative.L7]) Try.func41 rfl (by decide) impl_PolyDerivative.lok ((by kernel_rfl : runK Try.prog (tab [impl_ValidPoly.e, impl_Integer.e, impl_MulI.e, (inl hmix [slices_ContainsFunc.e] 1 38 Try.f38 Try.func38 rfl)]) 0 impl_PolyDerivative.ls (lam [impl_PolyDerivative.L7]) Try.f41 (argVals 0 [(aL (.agg #[.int .i64 0, .int .i64 0]) 29).enc list]) 1 (argBlocks [(aL (.agg #[.int .i64 0, .int .i64 0]) 29).enc list]) (hdrBlk2 1 (.agg #[.int .i64 0, .int .i64 0]) 29) = impl_PolyDerivative.t list fun r => some ((lstC r.1 true (.agg #[.int .i64 0, .int .i64 0]), 29), (cInt .i64).enc r.2)).trans (impl_PolyDerivative.t_eq list hpre _))
def impl_PolyDerivative.e : Entry Try.prog := entryAR21 (aL (.agg #[.int .i64 0, .int .i64 0]) 29) (cInt .i64) (.agg #[.int .i64 0, .int .i64 0]) 29 41 impl_PolyDerivative (fun list => decide ((list.length : Int) ≤ 1048576)) (fun list h => impl_PolyDerivative.gives list h)

/-! ### impl.at -/
def impl_at.t {ρ : Type} (n : Int) (K : Iv → Option ρ) : Option ρ := K (Iv.mk n n)
theorem impl_at.t_eq {ρ : Type} (n : Int) (K : Iv → Option ρ) : impl_at.t n K = K (impl_at n) := rfl
theorem impl_at.gives (n : Int) : GivesV Try.prog 53 [(cInt .i64).enc n] (cIv.enc (impl_at n)) :=
  givesT hmix [] 0 none Try.func53 rfl rfl ((by kernel_rfl : run1 Try.prog (tab []) 0 none noL Try.f53 [(cInt .i64).enc n] [] = impl_at.t n fun r => some (cIv.enc r, [])).trans (impl_at.t_eq n _))
def impl_at.e : Entry Try.prog := entry1 (cInt .i64) cIv 53 impl_at impl_at.gives

/-! ### impl.AddI -/
def impl_AddI.t {ρ : Type} (a : Iv) (b : Iv) (K : Iv → Option ρ) : Option ρ := bif (!(impl_areBounded a b)) then (K impl_Whole) else (K (impl_bounded (w64 (a.lo + b.lo)) (w64 (a.hi + b.hi)) true))
theorem impl_AddI.t_eq {ρ : Type} (a : Iv) (b : Iv) (K : Iv → Option ρ) : impl_AddI.t a b K = K (impl_AddI a b) := cq (fun h0 => rfl) (fun h0 => rfl)
theorem impl_AddI.gives (a : Iv) (b : Iv) : GivesV Try.prog 36 [cIv.enc a, cIv.enc b] (cIv.enc (impl_AddI a b)) :=
  givesT hmix [impl_areBounded.e, impl_Whole.e, impl_bounded.e] 0 none Try.func36 rfl rfl ((by kernel_rfl : run1 Try.prog (tab [impl_areBounded.e, impl_Whole.e, impl_bounded.e]) 0 none noL Try.f36 [cIv.enc a, cIv.enc b] [] = impl_AddI.t a b fun r => some (cIv.enc r, [])).trans (impl_AddI.t_eq a b _))
def impl_AddI.e : Entry Try.prog := entry2 cIv cIv cIv 36 impl_AddI impl_AddI.gives

/-! ### impl.PolyAt -/
def impl_PolyAt.ls : Option (List Nat) := some [0, 3, 4, 5, 6]
def impl_PolyAt.env5 (list : List Value) (x_lo : Int) (x_hi : Int) (v : Int × Int × Int) : Env := [(0, .slice (some ⟨0, 0, some 0⟩) 0 0), (3, .pointer (some ⟨1, 0, none⟩)), (4, .pointer (some ⟨2, 0, none⟩)), (5, .pointer (some ⟨3, 0, none⟩)), (6, .int .i64 v.1)]
def impl_PolyAt.heap5 (list : List Value) (x_lo : Int) (x_hi : Int) (v : Int × Int × Int) : LH := [(lstC list false (.agg #[.int .i64 0, .int .i64 0]), 29), (#[.int .i64 x_lo, .int .i64 x_hi], 29), (#[.int .i64 0, .int .i64 0], 29), (#[.int .i64 v.2.1, .int .i64 v.2.2], 29)]
def impl_PolyAt.L5 : LEntry := ⟨5, fun _ tm σ K => match tm, σ with
  | [(0, .slice (some ⟨0, 0, some 0⟩) 0 0), (3, .pointer (some ⟨1, 0, none⟩)), (4, .pointer (some ⟨2, 0, none⟩)), (5, .pointer (some ⟨3, 0, none⟩)), (6, .int .i64 i)], [(⟨[.tuple ⟨list⟩, .bool false, .agg ⟨[.int .i64 0, .int .i64 0]⟩]⟩, 29), (⟨[.int .i64 x_lo, .int .i64 x_hi]⟩, 29), (⟨[.int .i64 0, .int .i64 0]⟩, 29), (⟨[.int .i64 p_lo, .int .i64 p_hi]⟩, 29)] => (match decide (-1 ≤ i ∧ i < (list.length : Int) ∧ (list.length : Int) ≤ 1048576) with | true => K (.exit 0) (impl_PolyAt.env5 list x_lo x_hi (impl_PolyAt.fin5 list x_lo x_hi (i, p_lo, p_hi))) (impl_PolyAt.heap5 list x_lo x_hi (impl_PolyAt.fin5 list x_lo x_hi (i, p_lo, p_hi))) | false => none)
  | _, _ => none⟩
def impl_PolyAt.lt5 {ρ : Type} (list : List Value) (x_lo : Int) (x_hi : Int) (i : Int) (p_lo : Int) (p_hi : Int) (K : Sum (Int × Int × Int) (Int × Int × Int) → Option ρ) : Option ρ := bif decide (i ≥ 0) then (bif decide (0 ≤ i ∧ i < (list.length : Int)) then (bif decide ((Int.toNat i) < list.length) then (let t6 := (impl_AddI (impl_MulI (Iv.mk p_lo p_hi) (Iv.mk x_lo x_hi)) (atIv list false i)); K (Sum.inl ((w64 (i - 1)), t6.lo, t6.hi))) else none) else none) else (K (Sum.inr (i, p_lo, p_hi)))
theorem impl_PolyAt.lt5_eq {ρ : Type} (list : List Value) (x_lo : Int) (x_hi : Int) (i : Int) (p_lo : Int) (p_hi : Int) (hpre : -1 ≤ i ∧ i < (list.length : Int) ∧ (list.length : Int) ≤ 1048576) (K : Sum (Int × Int × Int) (Int × Int × Int) → Option ρ) : impl_PolyAt.lt5 list x_lo x_hi i p_lo p_hi K = K (impl_PolyAt.rnd5 list x_lo x_hi i p_lo p_hi) := cq (fun h0 => cqT (by first | exact u64_neg _ | (simp only [decide_eq_true_eq, decide_eq_false_iff_not] at *; omega) | (simp only [Bool.not_eq_eq_eq_not, Bool.not_false, inside_iff, l00In_iff, decide_eq_true_eq, decide_eq_false_iff_not, w64_def, u64_def] at *; omega)) (fun h1 => cqT (by first | exact u64_neg _ | (simp only [decide_eq_true_eq, decide_eq_false_iff_not] at *; omega) | (simp only [Bool.not_eq_eq_eq_not, Bool.not_false, inside_iff, l00In_iff, decide_eq_true_eq, decide_eq_false_iff_not, w64_def, u64_def] at *; omega)) (fun h2 => rfl))) (fun h0 => rfl)
theorem impl_PolyAt.step5 (list : List Value) (x_lo : Int) (x_hi : Int) (i : Int) (p_lo : Int) (p_hi : Int) (k : Nat) (R : Type) (K : LX → Env → LH → Option R) : loopN Try.prog 1 impl_PolyAt.ls (k + 1) (exec Try.prog (tab (P := Try.prog) [impl_ValidPoly.e, impl_Whole.e, impl_IsWhole.e, impl_MulI.e, impl_AddI.e]) 1 37 0 impl_PolyAt.ls (lam [impl_PolyAt.L5]) (cOf Try.f43 0)) (impl_PolyAt.env5 list x_lo x_hi (i, p_lo, p_hi)) (impl_PolyAt.heap5 list x_lo x_hi (i, p_lo, p_hi)) K = impl_PolyAt.lt5 list x_lo x_hi i p_lo p_hi (sumK (fun v => loopN Try.prog 1 impl_PolyAt.ls k (exec Try.prog (tab (P := Try.prog) [impl_ValidPoly.e, impl_Whole.e, impl_IsWhole.e, impl_MulI.e, impl_AddI.e]) 1 37 0 impl_PolyAt.ls (lam [impl_PolyAt.L5]) (cOf Try.f43 0)) (impl_PolyAt.env5 list x_lo x_hi v) (impl_PolyAt.heap5 list x_lo x_hi v) K) (fun v => K (.exit 0) (impl_PolyAt.env5 list x_lo x_hi v) (impl_PolyAt.heap5 list x_lo x_hi v))) := by kernel_rfl
theorem impl_PolyAt.dec5 (list : List Value) (x_lo : Int) (x_hi : Int) (v : Int × Int × Int) (hv : -1 ≤ v.1 ∧ v.1 < (list.length : Int) ∧ (list.length : Int) ≤ 1048576) (v' : Int × Int × Int) (hr : impl_PolyAt.rnd5 list x_lo x_hi v.1 v.2.1 v.2.2 = Sum.inl v') : (-1 ≤ v'.1 ∧ v'.1 < (list.length : Int) ∧ (list.length : Int) ≤ 1048576) ∧ (v'.1 + 1).toNat < (v.1 + 1).toNat := by
  exact dec_PolyAt hv hr
theorem impl_PolyAt.to5 : impl_PolyAt.L5.Ok Try.prog (tab (P := Try.prog) [impl_ValidPoly.e, impl_Whole.e, impl_IsWhole.e, impl_MulI.e, impl_AddI.e]) 1 37 0 impl_PolyAt.ls (lam [impl_PolyAt.L5]) (cOf Try.f43 0) := by
  intro R tm σ K r h
  simp only [impl_PolyAt.L5] at h
  split at h
  case h_2 => simp at h
  split at h
  case h_2 => simp at h
  rename_i i list x_lo x_hi p_lo p_hi _ hc
  exact ⟨_, _, _, h, loop_to (x := 0) (rnd := (fun v : Int × Int × Int => impl_PolyAt.rnd5 list x_lo x_hi v.1 v.2.1 v.2.2)) (env := fun v : Int × Int × Int => impl_PolyAt.env5 list x_lo x_hi v) (heap := fun v : Int × Int × Int => impl_PolyAt.heap5 list x_lo x_hi v) (Inv := (fun v : Int × Int × Int => -1 ≤ v.1 ∧ v.1 < (list.length : Int) ∧ (list.length : Int) ≤ 1048576)) (μ := (fun v : Int × Int × Int => (v.1 + 1).toNat)) (fun v hv k R K => (impl_PolyAt.step5 list x_lo x_hi v.1 v.2.1 v.2.2 k R K).trans (impl_PolyAt.lt5_eq list x_lo x_hi v.1 v.2.1 v.2.2 hv (sumK (fun v => loopN Try.prog 1 impl_PolyAt.ls k (exec Try.prog (tab (P := Try.prog) [impl_ValidPoly.e, impl_Whole.e, impl_IsWhole.e, impl_MulI.e, impl_AddI.e]) 1 37 0 impl_PolyAt.ls (lam [impl_PolyAt.L5]) (cOf Try.f43 0)) (impl_PolyAt.env5 list x_lo x_hi v) (impl_PolyAt.heap5 list x_lo x_hi v) K) (fun v => K (.exit 0) (impl_PolyAt.env5 list x_lo x_hi v) (impl_PolyAt.heap5 list x_lo x_hi v))))) (fun v hv v' hr => impl_PolyAt.dec5 list x_lo x_hi v hv v' hr) 1048577 (i, p_lo, p_hi) (by have := of_decide_eq_true hc; first | exact this | (simp only []; exact this)) (by have := of_decide_eq_true hc; first | omega | (simp only []; omega))⟩
theorem impl_PolyAt.lok : ∀ c, Try.f43.body = some c → LamOk Try.prog (tab (P := Try.prog) [impl_ValidPoly.e, impl_Whole.e, impl_IsWhole.e, impl_MulI.e, impl_AddI.e]) 1 Try.f43.ntmps 0 impl_PolyAt.ls (lam [impl_PolyAt.L5]) (loopsOf c) := by
  intro c hc
  have hb : loopsOf c = [(cOf Try.f43 0)] := by
    have h : loopsOf (Try.f43.body.getD .skip) = [(cOf Try.f43 0)] := by kernel_rfl
    rw [hc] at h
    exact h
  exact lam_ok1 hb impl_PolyAt.to5
def impl_PolyAt.t {ρ : Type} (list : List Value) (x : Iv) (K : Iv → Option ρ) : Option ρ := bif decide ((list.length : Int) ≤ 1048576) then (bif (!(impl_ValidPoly list)) then (K impl_Whole) else (bif (impl_IsWhole x) then (K impl_Whole) else (bif decide (0 ≤ (w64 ((list.length : Int) - 1)) ∧ (w64 ((list.length : Int) - 1)) < (list.length : Int)) then (bif decide ((Int.toNat (w64 ((list.length : Int) - 1))) < list.length) then (bif decide (-1 ≤ (w64 ((list.length : Int) - 2)) ∧ (w64 ((list.length : Int) - 2)) < (list.length : Int) ∧ (list.length : Int) ≤ 1048576) then (let t5 := (impl_PolyAt.fin5 list x.lo x.hi ((w64 ((list.length : Int) - 2)), (atIv list false ((w64 ((list.length : Int) - 1)))).lo, (atIv list false ((w64 ((list.length : Int) - 1)))).hi)); K (Iv.mk t5.2.1 t5.2.2)) else none) else none) else none))) else none
theorem impl_PolyAt.t_eq {ρ : Type} (list : List Value) (x : Iv) (hpre : (decide ((list.length : Int) ≤ 1048576)) = true) (K : Iv → Option ρ) : impl_PolyAt.t list x K = K (impl_PolyAt list x) := cqT (by first | exact hpre | (have hv := pd_valid hpre h1; simp only [decide_eq_true_eq, w64_def] at *; omega)) (fun h0 => cq (fun h1 => rfl) (fun h1 => cq (fun h2 => rfl) (fun h2 => cqT (by first | exact hpre | (have hv := pd_valid hpre h1; simp only [decide_eq_true_eq, w64_def] at *; omega)) (fun h3 => cqT (by first | exact hpre | (have hv := pd_valid hpre h1; simp only [decide_eq_true_eq, w64_def] at *; omega)) (fun h4 => cqT (by first | exact hpre | (have hv := pd_valid hpre h1; simp only [decide_eq_true_eq, w64_def] at *; omega)) (fun h5 => rfl))))))
theorem impl_PolyAt.gives (list : List Value) (x : Iv) (hpre : (decide ((list.length : Int) ≤ 1048576)) = true) : GivesA Try.prog 43 [(aL (.agg #[.int .i64 0, .int .i64 0]) 29).enc list, (aV cIv).enc x] (cIv.enc (impl_PolyAt list x)) :=
  givesA_L hmix [impl_ValidPoly.e, impl_Whole.e, impl_IsWhole.e, impl_MulI.e, impl_AddI.e] 0 impl_PolyAt.ls (lam [impl_PolyAt.L5]) Try.func43 rfl impl_PolyAt.lok ((by kernel_rfl : run1 Try.prog (tab [impl_ValidPoly.e, impl_Whole.e, impl_IsWhole.e, impl_MulI.e, impl_AddI.e]) 0 impl_PolyAt.ls (lam [impl_PolyAt.L5]) Try.f43 (argVals 0 [(aL (.agg #[.int .i64 0, .int .i64 0]) 29).enc list, (aV cIv).enc x]) (argBlocks [(aL (.agg #[.int .i64 0, .int .i64 0]) 29).enc list, (aV cIv).enc x]) = impl_PolyAt.t list x fun r => some (cIv.enc r, argBlocks [(aL (.agg #[.int .i64 0, .int .i64 0]) 29).enc list, (aV cIv).enc x])).trans (impl_PolyAt.t_eq list x hpre _))
def impl_PolyAt.e : Entry Try.prog := entryA2 (aL (.agg #[.int .i64 0, .int .i64 0]) 29) (aV cIv) cIv 43 impl_PolyAt (fun list x => decide ((list.length : Int) ≤ 1048576)) (fun list x h => impl_PolyAt.gives list x h)

/-! ### impl.SignI -/
def impl_SignI.t {ρ : Type} (x : Iv) (K : Int → Option ρ) : Option ρ := bif (impl_IsWhole x) then (K 0) else (bif decide (x.lo > 0) then (K 1) else (bif decide (x.hi < 0) then (K (-1)) else (K 0)))
theorem impl_SignI.t_eq {ρ : Type} (x : Iv) (K : Int → Option ρ) : impl_SignI.t x K = K (impl_SignI x) := cq (fun h0 => rfl) (fun h0 => cq (fun h1 => rfl) (fun h1 => cq (fun h2 => rfl) (fun h2 => rfl)))
theorem impl_SignI.gives (x : Iv) : GivesV Try.prog 42 [cIv.enc x] ((cInt .i64).enc (impl_SignI x)) :=
  givesT hmix [impl_IsWhole.e] 0 none Try.func42 rfl rfl ((by kernel_rfl : run1 Try.prog (tab [impl_IsWhole.e]) 0 none noL Try.f42 [cIv.enc x] [] = impl_SignI.t x fun r => some ((cInt .i64).enc r, [])).trans (impl_SignI.t_eq x _))
def impl_SignI.e : Entry Try.prog := entry1 cIv (cInt .i64) 42 impl_SignI impl_SignI.gives

/-! ### impl.signAt -/
def impl_signAt.t {ρ : Type} (list : List Value) (n : Int) (K : Int → Option ρ) : Option ρ := bif decide ((list.length : Int) ≤ 1048576) then (K (impl_SignI (impl_PolyAt list (impl_at n)))) else none
theorem impl_signAt.t_eq {ρ : Type} (list : List Value) (n : Int) (hpre : (decide ((list.length : Int) ≤ 1048576)) = true) (K : Int → Option ρ) : impl_signAt.t list n K = K (impl_signAt list n) := cqT (by exact hpre) (fun h0 => rfl)
theorem impl_signAt.gives (list : List Value) (n : Int) (hpre : (decide ((list.length : Int) ≤ 1048576)) = true) : GivesA Try.prog 29 [(aL (.agg #[.int .i64 0, .int .i64 0]) 29).enc list, (aV (cInt .i64)).enc n] ((cInt .i64).enc (impl_signAt list n)) :=
  givesA_L hmix [impl_at.e, impl_PolyAt.e, impl_SignI.e] 0 none noL Try.func29 rfl (fun _ _ => noL_ok) ((by kernel_rfl : run1 Try.prog (tab [impl_at.e, impl_PolyAt.e, impl_SignI.e]) 0 none noL Try.f29 (argVals 0 [(aL (.agg #[.int .i64 0, .int .i64 0]) 29).enc list, (aV (cInt .i64)).enc n]) (argBlocks [(aL (.agg #[.int .i64 0, .int .i64 0]) 29).enc list, (aV (cInt .i64)).enc n]) = impl_signAt.t list n fun r => some ((cInt .i64).enc r, argBlocks [(aL (.agg #[.int .i64 0, .int .i64 0]) 29).enc list, (aV (cInt .i64)).enc n])).trans (impl_signAt.t_eq list n hpre _))
def impl_signAt.e : Entry Try.prog := entryA2 (aL (.agg #[.int .i64 0, .int .i64 0]) 29) (aV (cInt .i64)) (cInt .i64) 29 impl_signAt (fun list n => decide ((list.length : Int) ≤ 1048576)) (fun list n h => impl_signAt.gives list n h)

/-! ### impl.answer -/
def impl_answer.t {ρ : Type} (is : Bool) (K : Int → Option ρ) : Option ρ := bif is then (K 1) else (K 0)
theorem impl_answer.t_eq {ρ : Type} (is : Bool) (K : Int → Option ρ) : impl_answer.t is K = K (impl_answer is) := cq (fun h0 => rfl) (fun h0 => rfl)
theorem impl_answer.gives (is : Bool) : GivesV Try.prog 30 [cBool.enc is] ((cInt .i64).enc (impl_answer is)) :=
  givesT hmix [] 0 none Try.func30 rfl rfl ((by kernel_rfl : run1 Try.prog (tab []) 0 none noL Try.f30 [cBool.enc is] [] = impl_answer.t is fun r => some ((cInt .i64).enc r, [])).trans (impl_answer.t_eq is _))
def impl_answer.e : Entry Try.prog := entry1 cBool (cInt .i64) 30 impl_answer impl_answer.gives

/-! ### impl.SignChange -/
def impl_SignChange.t {ρ : Type} (list : List Value) (x : Iv) (K : Int → Option ρ) : Option ρ := bif (impl_IsWhole x) then (K 2) else (bif decide ((list.length : Int) ≤ 1048576) then (let t2 := (impl_signAt list x.lo); bif decide ((list.length : Int) ≤ 1048576) then (let t3 := (impl_signAt list x.hi); bif ((w64 (t2 * t3)) == 0) then (K 2) else (K (impl_answer (t2 != t3)))) else none) else none)
theorem impl_SignChange.t_eq {ρ : Type} (list : List Value) (x : Iv) (hpre : (decide ((list.length : Int) ≤ 1048576)) = true) (K : Int → Option ρ) : impl_SignChange.t list x K = K (impl_SignChange list x) := cq (fun h0 => rfl) (fun h0 => cqT (by exact hpre) (fun h1 => cqT (by exact hpre) (fun h2 => cq (fun h3 => rfl) (fun h3 => rfl))))
theorem impl_SignChange.gives (list : List Value) (x : Iv) (hpre : (decide ((list.length : Int) ≤ 1048576)) = true) : GivesA Try.prog 12 [(aL (.agg #[.int .i64 0, .int .i64 0]) 29).enc list, (aV cIv).enc x] ((cInt .i64).enc (impl_SignChange list x)) :=
  givesA_L hmix [impl_IsWhole.e, impl_signAt.e, impl_answer.e] 0 none noL Try.func12 rfl (fun _ _ => noL_ok) ((by kernel_rfl : run1 Try.prog (tab [impl_IsWhole.e, impl_signAt.e, impl_answer.e]) 0 none noL Try.f12 (argVals 0 [(aL (.agg #[.int .i64 0, .int .i64 0]) 29).enc list, (aV cIv).enc x]) (argBlocks [(aL (.agg #[.int .i64 0, .int .i64 0]) 29).enc list, (aV cIv).enc x]) = impl_SignChange.t list x fun r => some ((cInt .i64).enc r, argBlocks [(aL (.agg #[.int .i64 0, .int .i64 0]) 29).enc list, (aV cIv).enc x])).trans (impl_SignChange.t_eq list x hpre _))
def impl_SignChange.e : Entry Try.prog := entryA2 (aL (.agg #[.int .i64 0, .int .i64 0]) 29) (aV cIv) (cInt .i64) 12 impl_SignChange (fun list x => decide ((list.length : Int) ≤ 1048576)) (fun list x h => impl_SignChange.gives list x h)

/-! ### impl.UniqueRoot -/
def impl_UniqueRoot.t {ρ : Type} (list : List Value) (x : Iv) (K : Bool → Option ρ) : Option ρ := bif decide ((list.length : Int) ≤ 1048576) then (let t1 := (impl_PolyDerivative list); bif (t1.2 == 0) then (bif decide ((list.length : Int) ≤ 1048576) then (bif ((impl_SignChange list x) == 1) then (bif decide (((List.reverse t1.1).length : Int) ≤ 1048576) then (K ((impl_SignI (impl_PolyAt (List.reverse t1.1) x)) != 0)) else none) else (K false)) else none) else (K false)) else none
theorem impl_UniqueRoot.t_eq {ρ : Type} (list : List Value) (x : Iv) (hpre : (decide ((list.length : Int) ≤ 1048576)) = true) (K : Bool → Option ρ) : impl_UniqueRoot.t list x K = K (impl_UniqueRoot list x) := cqT (by first | exact hpre | exact pd_iuni hpre h1) (fun h0 => cq (fun h1 => cqT (by first | exact hpre | exact pd_iuni hpre h1) (fun h2 => cq (fun h3 => cqT (by first | exact hpre | exact pd_iuni hpre h1) (fun h4 => rfl)) (fun h3 => rfl))) (fun h1 => rfl))
theorem impl_UniqueRoot.gives (list : List Value) (x : Iv) (hpre : (decide ((list.length : Int) ≤ 1048576)) = true) : GivesA Try.prog 19 [(aL (.agg #[.int .i64 0, .int .i64 0]) 29).enc list, (aV cIv).enc x] (cBool.enc (impl_UniqueRoot list x)) :=
  givesA_L hmix [impl_PolyDerivative.e, impl_SignChange.e, impl_PolyAt.e, impl_SignI.e] 0 none noL Try.func19 rfl (fun _ _ => noL_ok) ((by kernel_rfl : run1 Try.prog (tab [impl_PolyDerivative.e, impl_SignChange.e, impl_PolyAt.e, impl_SignI.e]) 0 none noL Try.f19 (argVals 0 [(aL (.agg #[.int .i64 0, .int .i64 0]) 29).enc list, (aV cIv).enc x]) (argBlocks [(aL (.agg #[.int .i64 0, .int .i64 0]) 29).enc list, (aV cIv).enc x]) = impl_UniqueRoot.t list x fun r => some (cBool.enc r, argBlocks [(aL (.agg #[.int .i64 0, .int .i64 0]) 29).enc list, (aV cIv).enc x])).trans (impl_UniqueRoot.t_eq list x hpre _))
def impl_UniqueRoot.e : Entry Try.prog := entryA2 (aL (.agg #[.int .i64 0, .int .i64 0]) 29) (aV cIv) cBool 19 impl_UniqueRoot (fun list x => decide ((list.length : Int) ≤ 1048576)) (fun list x h => impl_UniqueRoot.gives list x h)

/-! ### laws.eqInterval -/
def laws_eqInterval.t {ρ : Type} (a : Iv) (b : Iv) (K : Bool → Option ρ) : Option ρ := bif (a.lo != b.lo) then (K false) else (bif (a.hi != b.hi) then (K false) else (K true))
theorem laws_eqInterval.t_eq {ρ : Type} (a : Iv) (b : Iv) (K : Bool → Option ρ) : laws_eqInterval.t a b K = K (laws_eqInterval a b) := cq (fun h0 => rfl) (fun h0 => cq (fun h1 => rfl) (fun h1 => rfl))
theorem laws_eqInterval.gives (a : Iv) (b : Iv) : GivesV Try.prog 22 [cIv.enc a, cIv.enc b] (cBool.enc (laws_eqInterval a b)) :=
  givesT hmix [] 0 none Try.func22 rfl rfl ((by kernel_rfl : run1 Try.prog (tab []) 0 none noL Try.f22 [cIv.enc a, cIv.enc b] [] = laws_eqInterval.t a b fun r => some (cBool.enc r, [])).trans (laws_eqInterval.t_eq a b _))
def laws_eqInterval.e : Entry Try.prog := entry2 cIv cIv cBool 22 laws_eqInterval laws_eqInterval.gives

/-! ### laws.eqIntervalS -/
def laws_eqIntervalS.ls : Option (List Nat) := some [0, 1, 4, 5]
def laws_eqIntervalS.env4 (a : List Value) (b : List Value) (v : Int) : Env := [(0, .slice (some ⟨0, 0, some 0⟩) 0 0), (1, .slice (some ⟨1, 0, some 0⟩) 0 0), (4, .bool false), (5, .int .i64 v)]
def laws_eqIntervalS.heap4 (a : List Value) (b : List Value) (v : Int) : LH := [(lstC a false (.agg #[.int .i64 0, .int .i64 0]), 29), (lstC b false (.agg #[.int .i64 0, .int .i64 0]), 29)]
def laws_eqIntervalS.envQ4 (a : List Value) (b : List Value) (v : Int × Bool) : Env := [(0, .slice (some ⟨0, 0, some 0⟩) 0 0), (1, .slice (some ⟨1, 0, some 0⟩) 0 0), (4, .bool v.2), (5, .int .i64 v.1)]
def laws_eqIntervalS.heapQ4 (a : List Value) (b : List Value) (v : Int × Bool) : LH := [(lstC a false (.agg #[.int .i64 0, .int .i64 0]), 29), (lstC b false (.agg #[.int .i64 0, .int .i64 0]), 29)]
def laws_eqIntervalS.L4 : LEntry := ⟨4, fun _ tm σ K => match tm, σ with
  | [(0, .slice (some ⟨0, 0, some 0⟩) 0 0), (1, .slice (some ⟨1, 0, some 0⟩) 0 0), (4, .bool false), (5, .int .i64 i)], [(⟨[.tuple ⟨a⟩, .bool false, .agg ⟨[.int .i64 0, .int .i64 0]⟩]⟩, 29), (⟨[.tuple ⟨b⟩, .bool false, .agg ⟨[.int .i64 0, .int .i64 0]⟩]⟩, 29)] => (match decide (0 ≤ i ∧ i ≤ (a.length : Int) ∧ (a.length : Int) = (b.length : Int) ∧ (a.length : Int) ≤ 1048576) with | true => caseR (fun v => K (.exit 0) (laws_eqIntervalS.env4 a b v) (laws_eqIntervalS.heap4 a b v)) (fun v => K .ret (laws_eqIntervalS.envQ4 a b v) (laws_eqIntervalS.heapQ4 a b v)) (laws_eqIntervalS.fin4 a b i) | false => none)
  | _, _ => none⟩
def laws_eqIntervalS.lt4 {ρ : Type} (a : List Value) (b : List Value) (i : Int) (K : Sum (Int) (Sum (Int) (Int × Bool)) → Option ρ) : Option ρ := bif decide (i < (a.length : Int)) then (bif decide (0 ≤ i ∧ i < (a.length : Int)) then (bif decide ((Int.toNat i) < a.length) then (bif decide (0 ≤ i ∧ i < (b.length : Int)) then (bif decide ((Int.toNat i) < b.length) then (bif (!(laws_eqInterval (atIv a false i) (atIv b false i))) then (K (Sum.inr (Sum.inr (i, false)))) else (K (Sum.inl (w64 (i + 1))))) else none) else none) else none) else none) else (K (Sum.inr (Sum.inl i)))
theorem laws_eqIntervalS.lt4_eq {ρ : Type} (a : List Value) (b : List Value) (i : Int) (hpre : 0 ≤ i ∧ i ≤ (a.length : Int) ∧ (a.length : Int) = (b.length : Int) ∧ (a.length : Int) ≤ 1048576) (K : Sum (Int) (Sum (Int) (Int × Bool)) → Option ρ) : laws_eqIntervalS.lt4 a b i K = K (laws_eqIntervalS.rnd4 a b i) := cq (fun h0 => cqT (by first | exact u64_neg _ | (simp only [decide_eq_true_eq, decide_eq_false_iff_not] at *; omega) | (simp only [Bool.not_eq_eq_eq_not, Bool.not_false, inside_iff, l00In_iff, decide_eq_true_eq, decide_eq_false_iff_not, w64_def, u64_def] at *; omega)) (fun h1 => cqT (by first | exact u64_neg _ | (simp only [decide_eq_true_eq, decide_eq_false_iff_not] at *; omega) | (simp only [Bool.not_eq_eq_eq_not, Bool.not_false, inside_iff, l00In_iff, decide_eq_true_eq, decide_eq_false_iff_not, w64_def, u64_def] at *; omega)) (fun h2 => cqT (by first | exact u64_neg _ | (simp only [decide_eq_true_eq, decide_eq_false_iff_not] at *; omega) | (simp only [Bool.not_eq_eq_eq_not, Bool.not_false, inside_iff, l00In_iff, decide_eq_true_eq, decide_eq_false_iff_not, w64_def, u64_def] at *; omega)) (fun h3 => cqT (by first | exact u64_neg _ | (simp only [decide_eq_true_eq, decide_eq_false_iff_not] at *; omega) | (simp only [Bool.not_eq_eq_eq_not, Bool.not_false, inside_iff, l00In_iff, decide_eq_true_eq, decide_eq_false_iff_not, w64_def, u64_def] at *; omega)) (fun h4 => cq (fun h5 => rfl) (fun h5 => rfl)))))) (fun h0 => rfl)
theorem laws_eqIntervalS.step4 (a : List Value) (b : List Value) (i : Int) (k : Nat) (R : Type) (K : LX → Env → LH → Option R) : loopN Try.prog 2 laws_eqIntervalS.ls (k + 1) (exec Try.prog (tab (P := Try.prog) [laws_eqInterval.e]) 2 27 0 laws_eqIntervalS.ls (lam [laws_eqIntervalS.L4]) (cOf Try.f13 0)) (laws_eqIntervalS.env4 a b i) (laws_eqIntervalS.heap4 a b i) K = laws_eqIntervalS.lt4 a b i (sumR (fun v => loopN Try.prog 2 laws_eqIntervalS.ls k (exec Try.prog (tab (P := Try.prog) [laws_eqInterval.e]) 2 27 0 laws_eqIntervalS.ls (lam [laws_eqIntervalS.L4]) (cOf Try.f13 0)) (laws_eqIntervalS.env4 a b v) (laws_eqIntervalS.heap4 a b v) K) (fun v => K (.exit 0) (laws_eqIntervalS.env4 a b v) (laws_eqIntervalS.heap4 a b v)) (fun v => K .ret (laws_eqIntervalS.envQ4 a b v) (laws_eqIntervalS.heapQ4 a b v))) := by kernel_rfl
theorem laws_eqIntervalS.dec4 (a : List Value) (b : List Value) (v : Int) (hv : 0 ≤ v ∧ v ≤ (a.length : Int) ∧ (a.length : Int) = (b.length : Int) ∧ (a.length : Int) ≤ 1048576) (v' : Int) (hr : laws_eqIntervalS.rnd4 a b v = Sum.inl v') : (0 ≤ v' ∧ v' ≤ (a.length : Int) ∧ (a.length : Int) = (b.length : Int) ∧ (a.length : Int) ≤ 1048576) ∧ ((a.length : Int) - v').toNat < ((a.length : Int) - v).toNat := by
  exact dec_eqS hv hr
theorem laws_eqIntervalS.to4 : laws_eqIntervalS.L4.Ok Try.prog (tab (P := Try.prog) [laws_eqInterval.e]) 2 27 0 laws_eqIntervalS.ls (lam [laws_eqIntervalS.L4]) (cOf Try.f13 0) := by
  intro R tm σ K r h
  simp only [laws_eqIntervalS.L4] at h
  split at h
  case h_2 => simp at h
  split at h
  case h_2 => simp at h
  rename_i i a b _ hc
  exact caseR_ok h (loop_toR (x := 0) (rnd := (fun v : Int => laws_eqIntervalS.rnd4 a b v)) (env := fun v : Int => laws_eqIntervalS.env4 a b v) (heap := fun v : Int => laws_eqIntervalS.heap4 a b v) (envQ := fun v => laws_eqIntervalS.envQ4 a b v) (heapQ := fun v => laws_eqIntervalS.heapQ4 a b v) (Inv := (fun v : Int => 0 ≤ v ∧ v ≤ (a.length : Int) ∧ (a.length : Int) = (b.length : Int) ∧ (a.length : Int) ≤ 1048576)) (μ := (fun v : Int => ((a.length : Int) - v).toNat)) (fun v hv k R K => (laws_eqIntervalS.step4 a b v k R K).trans (laws_eqIntervalS.lt4_eq a b v hv (sumR (fun v => loopN Try.prog 2 laws_eqIntervalS.ls k (exec Try.prog (tab (P := Try.prog) [laws_eqInterval.e]) 2 27 0 laws_eqIntervalS.ls (lam [laws_eqIntervalS.L4]) (cOf Try.f13 0)) (laws_eqIntervalS.env4 a b v) (laws_eqIntervalS.heap4 a b v) K) (fun v => K (.exit 0) (laws_eqIntervalS.env4 a b v) (laws_eqIntervalS.heap4 a b v)) (fun v => K .ret (laws_eqIntervalS.envQ4 a b v) (laws_eqIntervalS.heapQ4 a b v))))) (fun v hv v' hr => laws_eqIntervalS.dec4 a b v hv v' hr) 1048577 i (by have := of_decide_eq_true hc; first | exact this | (simp only []; exact this)) (by have := of_decide_eq_true hc; first | omega | (simp only []; omega)))
theorem laws_eqIntervalS.lok : ∀ c, Try.f13.body = some c → LamOk Try.prog (tab (P := Try.prog) [laws_eqInterval.e]) 2 Try.f13.ntmps 0 laws_eqIntervalS.ls (lam [laws_eqIntervalS.L4]) (loopsOf c) := by
  intro c hc
  have hb : loopsOf c = [(cOf Try.f13 0)] := by
    have h : loopsOf (Try.f13.body.getD .skip) = [(cOf Try.f13 0)] := by kernel_rfl
    rw [hc] at h
    exact h
  exact lam_ok1 hb laws_eqIntervalS.to4
def laws_eqIntervalS.t {ρ : Type} (a : List Value) (b : List Value) (K : Bool → Option ρ) : Option ρ := bif ((a.length : Int) != (b.length : Int)) then (K false) else (bif decide (0 ≤ (0 : Int) ∧ (0 : Int) ≤ (a.length : Int) ∧ (a.length : Int) = (b.length : Int) ∧ (a.length : Int) ≤ 1048576) then (caseR (fun t1 => K true) (fun t2 => K t2.2) (laws_eqIntervalS.fin4 a b 0)) else none)
theorem laws_eqIntervalS.t_eq {ρ : Type} (a : List Value) (b : List Value) (hpre : (decide ((a.length : Int) ≤ 1048576 ∧ (b.length : Int) ≤ 1048576)) = true) (K : Bool → Option ρ) : laws_eqIntervalS.t a b K = K (laws_eqIntervalS a b) := cq (fun h0 => rfl) (fun h0 => cqT (by exact decide_eq_true (by have h9 := of_decide_eq_true hpre; have h8 := eq_of_bne h0; omega)) (fun h1 => cqS (fun t1 => rfl) (fun t2 => rfl)))
theorem laws_eqIntervalS.gives (a : List Value) (b : List Value) (hpre : (decide ((a.length : Int) ≤ 1048576 ∧ (b.length : Int) ≤ 1048576)) = true) : GivesA Try.prog 13 [(aL (.agg #[.int .i64 0, .int .i64 0]) 29).enc a, (aL (.agg #[.int .i64 0, .int .i64 0]) 29).enc b] (cBool.enc (laws_eqIntervalS a b)) :=
  givesA_L hmix [laws_eqInterval.e] 0 laws_eqIntervalS.ls (lam [laws_eqIntervalS.L4]) Try.func13 rfl laws_eqIntervalS.lok ((by kernel_rfl : run1 Try.prog (tab [laws_eqInterval.e]) 0 laws_eqIntervalS.ls (lam [laws_eqIntervalS.L4]) Try.f13 (argVals 0 [(aL (.agg #[.int .i64 0, .int .i64 0]) 29).enc a, (aL (.agg #[.int .i64 0, .int .i64 0]) 29).enc b]) (argBlocks [(aL (.agg #[.int .i64 0, .int .i64 0]) 29).enc a, (aL (.agg #[.int .i64 0, .int .i64 0]) 29).enc b]) = laws_eqIntervalS.t a b fun r => some (cBool.enc r, argBlocks [(aL (.agg #[.int .i64 0, .int .i64 0]) 29).enc a, (aL (.agg #[.int .i64 0, .int .i64 0]) 29).enc b])).trans (laws_eqIntervalS.t_eq a b hpre _))
def laws_eqIntervalS.e : Entry Try.prog := entryA2 (aL (.agg #[.int .i64 0, .int .i64 0]) 29) (aL (.agg #[.int .i64 0, .int .i64 0]) 29) cBool 13 laws_eqIntervalS (fun a b => decide ((a.length : Int) ≤ 1048576 ∧ (b.length : Int) ≤ 1048576)) (fun a b h => laws_eqIntervalS.gives a b h)

/-! ### laws.FnExactUniqueRoot -/
def laws_FnExactUniqueRoot.t {ρ : Type} (aList : List Value) (aX : Iv) (K : Bool → Option ρ) : Option ρ := bif decide ((aList.length : Int) ≤ 9223372036854775807) then (bif decide ((laws_szIntervalS aList 1048576) < 0) then (K true) else (bif decide ((aList.length : Int) ≤ 1048576) then (let t2 := (laws_toIntervalS aList); bif decide (((List.reverse t2).length : Int) ≤ 1048576) then (bif decide ((aList.length : Int) ≤ 1048576) then (let t5 := (laws_toIntervalS aList); bif decide (((List.reverse t5).length : Int) ≤ 1048576) then (bif (!((impl_UniqueRoot (List.reverse t5) (laws_toInterval aX)) == (spec_UniqueRoot (List.reverse t2) (laws_toInterval aX)))) then (K false) else (bif decide ((aList.length : Int) ≤ 1048576) then (let t8 := (laws_toIntervalS aList); bif decide (((List.reverse t5).length : Int) ≤ 1048576 ∧ ((List.reverse t8).length : Int) ≤ 1048576) then (bif (!(laws_eqIntervalS (List.reverse t5) (List.reverse t8))) then (K false) else (K true)) else none) else none)) else none) else none) else none) else none)) else none
theorem laws_FnExactUniqueRoot.t_eq {ρ : Type} (aList : List Value) (aX : Iv) (hpre : (decide ((aList.length : Int) ≤ 9223372036854775807)) = true) (K : Bool → Option ρ) : laws_FnExactUniqueRoot.t aList aX K = K (laws_FnExactUniqueRoot aList aX) := cqT (by first | exact hpre | exact pd_sz hpre h1 | exact pd_rev hpre h1 | exact pd_rev2 hpre h1) (fun h0 => cq (fun h1 => rfl) (fun h1 => cqT (by first | exact hpre | exact pd_sz hpre h1 | exact pd_rev hpre h1 | exact pd_rev2 hpre h1) (fun h2 => cqT (by first | exact hpre | exact pd_sz hpre h1 | exact pd_rev hpre h1 | exact pd_rev2 hpre h1) (fun h3 => cqT (by first | exact hpre | exact pd_sz hpre h1 | exact pd_rev hpre h1 | exact pd_rev2 hpre h1) (fun h4 => cqT (by first | exact hpre | exact pd_sz hpre h1 | exact pd_rev hpre h1 | exact pd_rev2 hpre h1) (fun h5 => cq (fun h6 => rfl) (fun h6 => cqT (by first | exact hpre | exact pd_sz hpre h1 | exact pd_rev hpre h1 | exact pd_rev2 hpre h1) (fun h7 => cqT (by first | exact hpre | exact pd_sz hpre h1 | exact pd_rev hpre h1 | exact pd_rev2 hpre h1) (fun h8 => cq (fun h9 => rfl) (fun h9 => rfl))))))))))
theorem laws_FnExactUniqueRoot.gives (aList : List Value) (aX : Iv) (hpre : (decide ((aList.length : Int) ≤ 9223372036854775807)) = true) : GivesA Try.prog 5 [(aL (.agg #[.int .i64 0, .int .i64 0]) 24).enc aList, (aV cIv).enc aX] (cBool.enc (laws_FnExactUniqueRoot aList aX)) :=
  givesA_L hmix [laws_szIntervalS.e, laws_toIntervalS.e, laws_toInterval.e, spec_UniqueRoot.e, impl_UniqueRoot.e, laws_eqIntervalS.e] 0 none noL Try.func5 rfl (fun _ _ => noL_ok) ((by kernel_rfl : run1 Try.prog (tab [laws_szIntervalS.e, laws_toIntervalS.e, laws_toInterval.e, spec_UniqueRoot.e, impl_UniqueRoot.e, laws_eqIntervalS.e]) 0 none noL Try.f5 (argVals 0 [(aL (.agg #[.int .i64 0, .int .i64 0]) 24).enc aList, (aV cIv).enc aX]) (argBlocks [(aL (.agg #[.int .i64 0, .int .i64 0]) 24).enc aList, (aV cIv).enc aX]) = laws_FnExactUniqueRoot.t aList aX fun r => some (cBool.enc r, argBlocks [(aL (.agg #[.int .i64 0, .int .i64 0]) 24).enc aList, (aV cIv).enc aX])).trans (laws_FnExactUniqueRoot.t_eq aList aX hpre _))
def laws_FnExactUniqueRoot.e : Entry Try.prog := entryA2 (aL (.agg #[.int .i64 0, .int .i64 0]) 24) (aV cIv) cBool 5 laws_FnExactUniqueRoot (fun aList aX => decide ((aList.length : Int) ≤ 9223372036854775807)) (fun aList aX h => laws_FnExactUniqueRoot.gives aList aX h)

end Go.Proofs.Yteeegpbikbghaaa
