/- The machine walks the functions that the search for roots calls as the plain functions say. -/
import Derived.Test.YtogpbandlpjccaaRxO
import Derived.Test.YtogpbandlpjccaaPB
import Derived.Test.YtogpbandlpjccaaLen64
import Derived.Laws.Externs
set_option linter.unusedVariables false
set_option linter.unusedSimpArgs false
set_option maxRecDepth 100000
namespace Go.G880
open Go Go.RX
def qdF (a : Iv) : Int := bif (qaO a) then (-1) else ((w64 (a.hi - a.lo)))
end Go.G880
namespace Go.Proofs.Ytogpbandlpjccaa
open Go Go.RX Go.G880 Go.Proofs
theorem hmix : Try.prog.follows .mixedOrders = true := by kernel_rfl
def qdT.t {ρ : Type} (list : List Value) (K : Int → Option ρ) : Option ρ := K (list.length : Int)
theorem qdT.t_eq {ρ : Type} (list : List Value) (hpre : (decide ((list.length : Int) ≤ 1048576)) = true) (K : Int → Option ρ) : qdT.t list K = K (qdT list) := rfl
theorem qdT.gives (list : List Value) (hpre : (decide ((list.length : Int) ≤ 1048576)) = true) : qeO Try.prog 71 [(aL (.agg #[.int .i64 0, .int .i64 0]) 31).enc list] ((cInt .i64).enc (qdT list)) :=
 qfH hmix [] 0 none noL Try.func71 rfl (fun _ _ => qhJ) (Eq.trans (by kernel_rfl) (qdT.t_eq list hpre fun r => some ((cInt .i64).enc r, qaU [(aL (.agg #[.int .i64 0, .int .i64 0]) 31).enc list])))
def qdT.e : qdU Try.prog := entryA1 (aL (.agg #[.int .i64 0, .int .i64 0]) 31) (cInt .i64) 71 qdT (fun list => decide ((list.length : Int) ≤ 1048576)) (fun list h => qdT.gives list h)
def qbI.t {ρ : Type} (x : Int) (low : Int) (high : Int) (K : Bool → Option ρ) : Option ρ := bif decide (x ≥ low) then (K (decide (x ≤ high))) else (K false)
theorem qbI.t_eq {ρ : Type} (x : Int) (low : Int) (high : Int) (K : Bool → Option ρ) : qbI.t x low high K = K (qbI x low high) := cq (fun h0 => rfl) (fun h0 => rfl)
theorem qbI.gives (x : Int) (low : Int) (high : Int) : qc7 Try.prog 67 [(cInt .i64).enc x, (cInt .i64).enc low, (cInt .i64).enc high] (qc3.enc (qbI x low high)) :=
 qdD hmix [] 0 none Try.func67 rfl rfl (Eq.trans (by kernel_rfl) (qbI.t_eq x low high fun r => some (qc3.enc r, [])))
def qbI.e : qdU Try.prog := entry3 (cInt .i64) (cInt .i64) (cInt .i64) qc3 67 qbI qbI.gives
def qa0.t {ρ : Type} (i : Iv) (K : Bool → Option ρ) : Option ρ := bif decide ((-1152921504606846976) < i.lo) then (bif decide (i.lo ≤ i.hi) then (K (decide (i.hi < 1152921504606846976))) else (K false)) else (K false)
theorem qa0.t_eq {ρ : Type} (i : Iv) (K : Bool → Option ρ) : qa0.t i K = K (qa0 i) := cq (fun h0 => cq (fun h1 => rfl) (fun h1 => rfl)) (fun h0 => rfl)
theorem qa0.gives (i : Iv) : qc7 Try.prog 73 [cIv.enc i] (qc3.enc (qa0 i)) :=
 qdD hmix [] 0 none Try.func73 rfl rfl (Eq.trans (by kernel_rfl) (qa0.t_eq i fun r => some (qc3.enc r, [])))
def qa0.e : qdU Try.prog := qgW cIv qc3 73 qa0 qa0.gives
def qaO.t {ρ : Type} (i : Iv) (K : Bool → Option ρ) : Option ρ := K (!(qa0 i))
theorem qaO.t_eq {ρ : Type} (i : Iv) (K : Bool → Option ρ) : qaO.t i K = K (qaO i) := rfl
theorem qaO.gives (i : Iv) : qc7 Try.prog 36 [cIv.enc i] (qc3.enc (qaO i)) :=
 qdD hmix [qa0.e] 0 none Try.func36 rfl rfl (Eq.trans (by kernel_rfl) (qaO.t_eq i fun r => some (qc3.enc r, [])))
def qaO.e : qdU Try.prog := qgW cIv qc3 36 qaO qaO.gives
def qaE.ls : Option (List Nat) := some [0, 1, 4, 7, 8]
def qaE.env2 (s : List Value) (n : Int) (v : Int) : Env := [(0, .slice (some ⟨0, 0, some 0⟩) 0 0), (1, .func (.func 36) #[] #[]), (4, .int .i64 0), (7, .int .i64 n), (8, .int .i64 v)]
def qaE.heap2 (s : List Value) (n : Int) (v : Int) : LH := [(lstC s false (.agg #[.int .i64 0, .int .i64 0]), 31)]
def qaE.envQ2 (s : List Value) (n : Int) (v : Int × Int) : Env := [(0, .slice (some ⟨0, 0, some 0⟩) 0 0), (1, .func (.func 36) #[] #[]), (4, .int .i64 v.2), (7, .int .i64 n), (8, .int .i64 v.1)]
def qaE.heapQ2 (s : List Value) (n : Int) (v : Int × Int) : LH := [(lstC s false (.agg #[.int .i64 0, .int .i64 0]), 31)]
def qaE.L2 : LEntry := ⟨2, fun _ tm σ K => match tm, σ with
 | [(0, .slice (some ⟨0, 0, some 0⟩) 0 0), (1, .func (.func 36) ⟨[]⟩ ⟨[]⟩), (4, .int .i64 0), (7, .int .i64 n), (8, .int .i64 i)], [(⟨[.tuple ⟨s⟩, .bool false, .agg ⟨[.int .i64 0, .int .i64 0]⟩]⟩, 31)] => (match decide (n = (s.length : Int) ∧ 0 ≤ i ∧ i ≤ (s.length : Int) ∧ (s.length : Int) ≤ 1048576) with | true => qiT (fun v => K (.exit 0) (qaE.env2 s n v) (qaE.heap2 s n v)) (fun v => K .ret (qaE.envQ2 s n v) (qaE.heapQ2 s n v)) (qaE.fin2 s n i) | false => none)
 | _, _ => none⟩
def qaE.lt2 {ρ : Type} (s : List Value) (n : Int) (i : Int) (K : Sum (Int) (Sum (Int) (Int × Int)) → Option ρ) : Option ρ := bif decide (i < n) then (bif decide (0 ≤ i ∧ i < (s.length : Int)) then (bif decide ((Int.toNat i) < s.length) then (bif (qaO (atIv s false i)) then (K (Sum.inr (Sum.inr (i, i)))) else (K (Sum.inl (w64 (i + 1))))) else none) else none) else (K (Sum.inr (Sum.inl i)))
theorem qaE.lt2_eq {ρ : Type} (s : List Value) (n : Int) (i : Int) (hpre : n = (s.length : Int) ∧ 0 ≤ i ∧ i ≤ (s.length : Int) ∧ (s.length : Int) ≤ 1048576) (K : Sum (Int) (Sum (Int) (Int × Int)) → Option ρ) : qaE.lt2 s n i K = K (qaE.rnd2 s n i) := cq (fun h0 => cqT (by first | exact qd6 _ | (simp only [decide_eq_true_eq, decide_eq_false_iff_not] at *; omega) | (simp only [Bool.not_eq_eq_eq_not, Bool.not_false, qfB, qdS, decide_eq_true_eq, decide_eq_false_iff_not, qdI, qcE] at *; omega)) (fun h1 => cqT (by first | exact qd6 _ | (simp only [decide_eq_true_eq, decide_eq_false_iff_not] at *; omega) | (simp only [Bool.not_eq_eq_eq_not, Bool.not_false, qfB, qdS, decide_eq_true_eq, decide_eq_false_iff_not, qdI, qcE] at *; omega)) (fun h2 => cq (fun h3 => rfl) (fun h3 => rfl)))) (fun h0 => rfl)
theorem qaE.step2 (s : List Value) (n : Int) (i : Int) (k : Nat) (R : Type) (K : LX → Env → LH → Option R) : qeT Try.prog 1 qaE.ls (k + 1) (exec Try.prog (tab (P := Try.prog) [qaO.e]) 1 19 0 qaE.ls (lam [qaE.L2]) (cOf Try.f90 0)) (qaE.env2 s n i) (qaE.heap2 s n i) K = qaE.lt2 s n i (sumR (fun v => qeT Try.prog 1 qaE.ls k (exec Try.prog (tab (P := Try.prog) [qaO.e]) 1 19 0 qaE.ls (lam [qaE.L2]) (cOf Try.f90 0)) (qaE.env2 s n v) (qaE.heap2 s n v) K) (fun v => K (.exit 0) (qaE.env2 s n v) (qaE.heap2 s n v)) (fun v => K .ret (qaE.envQ2 s n v) (qaE.heapQ2 s n v))) := by kernel_rfl
theorem qaE.dec2 (s : List Value) (n : Int) (v : Int) (hv : n = (s.length : Int) ∧ 0 ≤ v ∧ v ≤ (s.length : Int) ∧ (s.length : Int) ≤ 1048576) (v' : Int) (hr : qaE.rnd2 s n v = Sum.inl v') : (n = (s.length : Int) ∧ 0 ≤ v' ∧ v' ≤ (s.length : Int) ∧ (s.length : Int) ≤ 1048576) ∧ ((s.length : Int) - v').toNat < ((s.length : Int) - v).toNat := by
 exact dec_Index hv hr
theorem qaE.to2 : qaE.L2.Ok Try.prog (tab (P := Try.prog) [qaO.e]) 1 19 0 qaE.ls (lam [qaE.L2]) (cOf Try.f90 0) := by
 intro R tm σ K r h
 simp only [qaE.L2] at h
 split at h
 case h_2 => simp at h
 split at h
 case h_2 => simp at h
 rename_i n i s _ hc
 exact caseR_ok h (loop_toR (x := 0) (rnd := (fun v : Int => qaE.rnd2 s n v)) (env := fun v : Int => qaE.env2 s n v) (heap := fun v : Int => qaE.heap2 s n v) (envQ := fun v => qaE.envQ2 s n v) (heapQ := fun v => qaE.heapQ2 s n v) (Inv := (fun v : Int => n = (s.length : Int) ∧ 0 ≤ v ∧ v ≤ (s.length : Int) ∧ (s.length : Int) ≤ 1048576)) (μ := (fun v : Int => ((s.length : Int) - v).toNat)) (fun v hv k R K => (qaE.step2 s n v k R K).trans (qaE.lt2_eq s n v hv (sumR (fun v => qeT Try.prog 1 qaE.ls k (exec Try.prog (tab (P := Try.prog) [qaO.e]) 1 19 0 qaE.ls (lam [qaE.L2]) (cOf Try.f90 0)) (qaE.env2 s n v) (qaE.heap2 s n v) K) (fun v => K (.exit 0) (qaE.env2 s n v) (qaE.heap2 s n v)) (fun v => K .ret (qaE.envQ2 s n v) (qaE.heapQ2 s n v))))) (fun v hv v' hr => qaE.dec2 s n v hv v' hr) 1048577 i (by have := of_decide_eq_true hc; first | exact this | (simp only []; exact this)) (by have := of_decide_eq_true hc; first | omega | (simp only []; omega)))
theorem qaE.lok : ∀ c, Try.f90.body = some c → qh8 Try.prog (tab (P := Try.prog) [qaO.e]) 1 Try.f90.ntmps 0 qaE.ls (lam [qaE.L2]) (qc8 c) := by
 intro c hc
 have hb : qc8 c = [(cOf Try.f90 0)] := by
  have h : qc8 (Try.f90.body.getD .skip) = [(cOf Try.f90 0)] := by kernel_rfl
  rw [hc] at h
  exact h
 exact lam_ok1 hb qaE.to2
def qaE.t {ρ : Type} (s : List Value) (f : Unit) (K : Int → Option ρ) : Option ρ := bif decide ((s.length : Int) = (s.length : Int) ∧ 0 ≤ (0 : Int) ∧ (0 : Int) ≤ (s.length : Int) ∧ (s.length : Int) ≤ 1048576) then (qiT (fun t1 => K (-1)) (fun t2 => K t2.2) (qaE.fin2 s ((s.length : Int)) 0)) else none
theorem qaE.t_eq {ρ : Type} (s : List Value) (f : Unit) (hpre : (decide ((s.length : Int) ≤ 1048576)) = true) (K : Int → Option ρ) : qaE.t s f K = K (qaE s f) := cqT (by exact decide_eq_true (by have h9 := of_decide_eq_true hpre; omega)) (fun h0 => cqS (fun t1 => rfl) (fun t2 => rfl))
theorem qaE.gives (s : List Value) (f : Unit) (hpre : (decide ((s.length : Int) ≤ 1048576)) = true) : qeO Try.prog 90 [(aL (.agg #[.int .i64 0, .int .i64 0]) 31).enc s, (aF 36).enc f] ((cInt .i64).enc (qaE s f)) :=
 qfH hmix [qaO.e] 0 qaE.ls (lam [qaE.L2]) Try.func90 rfl qaE.lok (Eq.trans (by kernel_rfl) (qaE.t_eq s f hpre fun r => some ((cInt .i64).enc r, qaU [(aL (.agg #[.int .i64 0, .int .i64 0]) 31).enc s, (aF 36).enc f])))
def qaE.e : qdU Try.prog := entryA2 (aL (.agg #[.int .i64 0, .int .i64 0]) 31) (aF 36) (cInt .i64) 90 qaE (fun s f => decide ((s.length : Int) ≤ 1048576)) (fun s f h => qaE.gives s f h)
def qbD.t {ρ : Type} (s : List Value) (f : Unit) (K : Bool → Option ρ) : Option ρ := bif decide ((s.length : Int) ≤ 1048576) then (K (decide ((qaE s ()) ≥ 0))) else none
theorem qbD.t_eq {ρ : Type} (s : List Value) (f : Unit) (hpre : (decide ((s.length : Int) ≤ 1048576)) = true) (K : Bool → Option ρ) : qbD.t s f K = K (qbD s f) := cqT (by exact hpre) (fun h0 => rfl)
theorem qbD.gives (s : List Value) (f : Unit) (hpre : (decide ((s.length : Int) ≤ 1048576)) = true) : qeO Try.prog 72 [(aL (.agg #[.int .i64 0, .int .i64 0]) 31).enc s, (aF 36).enc f] (qc3.enc (qbD s f)) :=
 qfH hmix [qaE.e] 0 none noL Try.func72 rfl (fun _ _ => qhJ) (Eq.trans (by kernel_rfl) (qbD.t_eq s f hpre fun r => some (qc3.enc r, qaU [(aL (.agg #[.int .i64 0, .int .i64 0]) 31).enc s, (aF 36).enc f])))
def qbD.e : qdU Try.prog := entryA2 (aL (.agg #[.int .i64 0, .int .i64 0]) 31) (aF 36) qc3 72 qbD (fun s f => decide ((s.length : Int) ≤ 1048576)) (fun s f h => qbD.gives s f h)
def qaQ.t {ρ : Type} (list : List Value) (K : Bool → Option ρ) : Option ρ := bif decide ((list.length : Int) ≤ 1048576) then (bif (qbI (qdT list) 1 17) then (bif decide ((list.length : Int) ≤ 1048576) then (K (!(qbD list ()))) else none) else (K false)) else none
theorem qaQ.t_eq {ρ : Type} (list : List Value) (hpre : (decide ((list.length : Int) ≤ 1048576)) = true) (K : Bool → Option ρ) : qaQ.t list K = K (qaQ list) := cqT (by exact hpre) (fun h0 => cq (fun h1 => cqT (by exact hpre) (fun h2 => rfl)) (fun h1 => rfl))
theorem qaQ.gives (list : List Value) (hpre : (decide ((list.length : Int) ≤ 1048576)) = true) : qeO Try.prog 35 [(aL (.agg #[.int .i64 0, .int .i64 0]) 31).enc list] (qc3.enc (qaQ list)) :=
 qfH hmix [qdT.e, qbI.e, qbD.e] 0 none noL Try.func35 rfl (fun _ _ => qhJ) (Eq.trans (by kernel_rfl) (qaQ.t_eq list hpre fun r => some (qc3.enc r, qaU [(aL (.agg #[.int .i64 0, .int .i64 0]) 31).enc list])))
def qaQ.e : qdU Try.prog := entryA1 (aL (.agg #[.int .i64 0, .int .i64 0]) 31) qc3 35 qaQ (fun list => decide ((list.length : Int) ≤ 1048576)) (fun list h => qaQ.gives list h)
def qaS.t {ρ : Type} (K : Iv → Option ρ) : Option ρ := K (Iv.mk (-1152921504606846976) 1152921504606846976)
theorem qaS.t_eq {ρ : Type} (K : Iv → Option ρ) : qaS.t K = K qaS := rfl
theorem qaS.gives : qc7 Try.prog 37 [] (cIv.enc qaS) :=
 qdD hmix [] 0 none Try.func37 rfl rfl (Eq.trans (by kernel_rfl) (qaS.t_eq fun r => some (cIv.enc r, [])))
def qaS.e : qdU Try.prog := entry0 cIv 37 qaS qaS.gives
def qbX.t {ρ : Type} (a : Iv) (b : Iv) (K : Bool → Option ρ) : Option ρ := bif (qa0 a) then (K (qa0 b)) else (K false)
theorem qbX.t_eq {ρ : Type} (a : Iv) (b : Iv) (K : Bool → Option ρ) : qbX.t a b K = K (qbX a b) := cq (fun h0 => rfl) (fun h0 => rfl)
theorem qbX.gives (a : Iv) (b : Iv) : qc7 Try.prog 74 [cIv.enc a, cIv.enc b] (qc3.enc (qbX a b)) :=
 qdD hmix [qa0.e] 0 none Try.func74 rfl rfl (Eq.trans (by kernel_rfl) (qbX.t_eq a b fun r => some (qc3.enc r, [])))
def qbX.e : qdU Try.prog := qf3 cIv cIv qc3 74 qbX qbX.gives
def qbF.t {ρ : Type} (n : Int) (K : Bool → Option ρ) : Option ρ := K (qbI n (-1152921504606846976) 1152921504606846976)
theorem qbF.t_eq {ρ : Type} (n : Int) (K : Bool → Option ρ) : qbF.t n K = K (qbF n) := rfl
theorem qbF.gives (n : Int) : qc7 Try.prog 91 [(cInt .i64).enc n] (qc3.enc (qbF n)) :=
 qdD hmix [qbI.e] 0 none Try.func91 rfl rfl (Eq.trans (by kernel_rfl) (qbF.t_eq n fun r => some (qc3.enc r, [])))
def qbF.e : qdU Try.prog := qgW (cInt .i64) qc3 91 qbF qbF.gives
def qdY.t {ρ : Type} (x : Int) (y : Int) (K : (Int × Int) → Option ρ) : Option ρ := let x2 := (u64 ((u64 ((Int.fdiv x 4294967296) * (andI .u64 y 4294967295))) + (Int.fdiv (u64 ((andI .u64 x 4294967295) * (andI .u64 y 4294967295))) 4294967296))); K ((u64 ((u64 ((u64 ((Int.fdiv x 4294967296) * (Int.fdiv y 4294967296))) + (Int.fdiv x2 4294967296))) + (Int.fdiv (u64 ((andI .u64 x2 4294967295) + (u64 ((andI .u64 x 4294967295) * (Int.fdiv y 4294967296))))) 4294967296))), (u64 (x * y)))
theorem qdY.t_eq {ρ : Type} (x : Int) (y : Int) (K : (Int × Int) → Option ρ) : qdY.t x y K = K (qdY x y) := rfl
theorem qdY.gives (x : Int) (y : Int) : qc7 Try.prog 110 [(cInt .u64).enc x, (cInt .u64).enc y] ((cT2 (cInt .u64) (cInt .u64)).enc (qdY x y)) :=
 qdD hmix [] 0 none Try.func110 rfl rfl (Eq.trans (by kernel_rfl) (qdY.t_eq x y fun r => some ((cT2 (cInt .u64) (cInt .u64)).enc r, [])))
def qdY.e : qdU Try.prog := qf3 (cInt .u64) (cInt .u64) (cT2 (cInt .u64) (cInt .u64)) 110 qdY qdY.gives
def qcD.t {ρ : Type} (a : Int) (b : Int) (K : Wd → Option ρ) : Option ρ := let t1 := (qdY (u64 a) (u64 b)); bif decide (a < 0) then (bif decide (b < 0) then (K (Wd.mk (w64 (u64 ((u64 (t1.1 - (u64 b))) - (u64 a)))) t1.2)) else (K (Wd.mk (w64 (u64 (t1.1 - (u64 b)))) t1.2))) else (bif decide (b < 0) then (K (Wd.mk (w64 (u64 (t1.1 - (u64 a)))) t1.2)) else (K (Wd.mk (w64 t1.1) t1.2)))
theorem qcD.t_eq {ρ : Type} (a : Int) (b : Int) (K : Wd → Option ρ) : qcD.t a b K = K (qcD a b) := cq (fun h0 => cq (fun h1 => rfl) (fun h1 => rfl)) (fun h0 => cq (fun h1 => rfl) (fun h1 => rfl))
theorem qcD.gives (a : Int) (b : Int) : qc7 Try.prog 103 [(cInt .i64).enc a, (cInt .i64).enc b] (cWd.enc (qcD a b)) :=
 qdD hmix [qdY.e] 0 none Try.func103 rfl rfl (Eq.trans (by kernel_rfl) (qcD.t_eq a b fun r => some (cWd.enc r, [])))
def qcD.e : qdU Try.prog := qf3 (cInt .i64) (cInt .i64) cWd 103 qcD qcD.gives
def qcP.t {ρ : Type} (w : Wd) (n : Int) (K : Wd → Option ρ) : Option ρ := bif (!(qbI n 0 127)) then (K (Wd.mk 0 0)) else (bif decide (n ≥ 64) then (bif decide ((w64 (n - 64)) < 0) then none else (K (Wd.mk (Int.fdiv w.hi 9223372036854775808) (u64 (Int.fdiv w.hi (2 ^ (min (Int.toNat (w64 (n - 64))) 64))))))) else (bif decide (n < 0) then none else (bif decide (n < 0) then none else (bif decide ((w64 (64 - n)) < 0) then none else (K (Wd.mk (Int.fdiv w.hi (2 ^ (min (Int.toNat n) 64))) (orI .u64 (Int.fdiv w.lo (2 ^ (min (Int.toNat n) 64))) (u64 ((u64 w.hi) * (2 ^ (min (Int.toNat (w64 (64 - n))) 64)))))))))))
theorem qcP.t_eq {ρ : Type} (w : Wd) (n : Int) (K : Wd → Option ρ) : qcP.t w n K = K (qcP w n) := cq (fun h0 => rfl) (fun h0 => cq (fun h1 => cqF (by first | exact qd6 _ | (simp only [decide_eq_true_eq, decide_eq_false_iff_not] at *; omega) | (simp only [Bool.not_eq_eq_eq_not, Bool.not_false, qfB, qdS, decide_eq_true_eq, decide_eq_false_iff_not, qdI, qcE] at *; omega)) (fun h2 => rfl)) (fun h1 => cqF (by first | exact qd6 _ | (simp only [decide_eq_true_eq, decide_eq_false_iff_not] at *; omega) | (simp only [Bool.not_eq_eq_eq_not, Bool.not_false, qfB, qdS, decide_eq_true_eq, decide_eq_false_iff_not, qdI, qcE] at *; omega)) (fun h2 => cqF (by first | exact qd6 _ | (simp only [decide_eq_true_eq, decide_eq_false_iff_not] at *; omega) | (simp only [Bool.not_eq_eq_eq_not, Bool.not_false, qfB, qdS, decide_eq_true_eq, decide_eq_false_iff_not, qdI, qcE] at *; omega)) (fun h3 => cqF (by first | exact qd6 _ | (simp only [decide_eq_true_eq, decide_eq_false_iff_not] at *; omega) | (simp only [Bool.not_eq_eq_eq_not, Bool.not_false, qfB, qdS, decide_eq_true_eq, decide_eq_false_iff_not, qdI, qcE] at *; omega)) (fun h4 => rfl)))))
theorem qcP.gives (w : Wd) (n : Int) : qc7 Try.prog 102 [cWd.enc w, (cInt .i64).enc n] (cWd.enc (qcP w n)) :=
 qdD hmix [qbI.e] 0 none Try.func102 rfl rfl (Eq.trans (by kernel_rfl) (qcP.t_eq w n fun r => some (cWd.enc r, [])))
def qcP.e : qdU Try.prog := qf3 cWd (cInt .i64) cWd 102 qcP qcP.gives
def qdK.t {ρ : Type} (n : Int) (K : Wd → Option ρ) : Option ρ := K (Wd.mk (Int.fdiv n 9223372036854775808) (u64 n))
theorem qdK.t_eq {ρ : Type} (n : Int) (K : Wd → Option ρ) : qdK.t n K = K (qdK n) := rfl
theorem qdK.gives (n : Int) : qc7 Try.prog 109 [(cInt .i64).enc n] (cWd.enc (qdK n)) :=
 qdD hmix [] 0 none Try.func109 rfl rfl (Eq.trans (by kernel_rfl) (qdK.t_eq n fun r => some (cWd.enc r, [])))
def qdK.e : qdU Try.prog := qgW (cInt .i64) cWd 109 qdK qdK.gives
def qcT.t {ρ : Type} (w : Wd) (K : (Int × Bool) → Option ρ) : Option ρ := let t1 := (qdK (w64 w.lo)); bif (!((t1.hi == w.hi) && (t1.lo == w.lo))) then (K (0, false)) else (K ((w64 w.lo), true))
theorem qcT.t_eq {ρ : Type} (w : Wd) (K : (Int × Bool) → Option ρ) : qcT.t w K = K (qcT w) := cq (fun h0 => rfl) (fun h0 => rfl)
theorem qcT.gives (w : Wd) : qc7 Try.prog 101 [cWd.enc w] ((cT2 (cInt .i64) qc3).enc (qcT w)) :=
 qdD hmix [qdK.e] 0 none Try.func101 rfl rfl (Eq.trans (by kernel_rfl) (qcT.t_eq w fun r => some ((cT2 (cInt .i64) qc3).enc r, [])))
def qcT.e : qdU Try.prog := qgW cWd (cT2 (cInt .i64) qc3) 101 qcT qcT.gives
def qc1.t {ρ : Type} (a : Int) (b : Int) (shift : Int) (K : (Int × Bool) → Option ρ) : Option ρ := bif (!(qbI shift 0 126)) then (K (0, false)) else (let t4 := (qcT (qcP (qcD a b) shift)); K (t4.1, t4.2))
theorem qc1.t_eq {ρ : Type} (a : Int) (b : Int) (shift : Int) (K : (Int × Bool) → Option ρ) : qc1.t a b shift K = K (qc1 a b shift) := cq (fun h0 => rfl) (fun h0 => rfl)
theorem qc1.gives (a : Int) (b : Int) (shift : Int) : qc7 Try.prog 93 [(cInt .i64).enc a, (cInt .i64).enc b, (cInt .i64).enc shift] ((cT2 (cInt .i64) qc3).enc (qc1 a b shift)) :=
 qdD hmix [qbI.e, qcD.e, qcP.e, qcT.e] 0 none Try.func93 rfl rfl (Eq.trans (by kernel_rfl) (qc1.t_eq a b shift fun r => some ((cT2 (cInt .i64) qc3).enc r, [])))
def qc1.e : qdU Try.prog := entry3 (cInt .i64) (cInt .i64) (cInt .i64) (cT2 (cInt .i64) qc3) 93 qc1 qc1.gives
def qdC.t {ρ : Type} (n : Int) (ok : Bool) (K : (Int × Bool) → Option ρ) : Option ρ := bif (!ok) then (K (0, false)) else (bif (!(qbF n)) then (K (0, false)) else (K (n, true)))
theorem qdC.t_eq {ρ : Type} (n : Int) (ok : Bool) (K : (Int × Bool) → Option ρ) : qdC.t n ok K = K (qdC n ok) := cq (fun h0 => rfl) (fun h0 => cq (fun h1 => rfl) (fun h1 => rfl))
theorem qdC.gives (n : Int) (ok : Bool) : qc7 Try.prog 92 [(cInt .i64).enc n, qc3.enc ok] ((cT2 (cInt .i64) qc3).enc (qdC n ok)) :=
 qdD hmix [qbF.e] 0 none Try.func92 rfl rfl (Eq.trans (by kernel_rfl) (qdC.t_eq n ok fun r => some ((cT2 (cInt .i64) qc3).enc r, [])))
def qdC.e : qdU Try.prog := qf3 (cInt .i64) qc3 (cT2 (cInt .i64) qc3) 92 qdC qdC.gives
def qb7.t {ρ : Type} (a : Int) (b : Int) (K : (Int × Bool) → Option ρ) : Option ρ := bif (!(qbF a)) then (K (0, false)) else (bif (!(qbF b)) then (K (0, false)) else (let t3 := (qc1 a b 32); let t4 := (qdC t3.1 t3.2); K (t4.1, t4.2)))
theorem qb7.t_eq {ρ : Type} (a : Int) (b : Int) (K : (Int × Bool) → Option ρ) : qb7.t a b K = K (qb7 a b) := cq (fun h0 => rfl) (fun h0 => cq (fun h1 => rfl) (fun h1 => rfl))
theorem qb7.gives (a : Int) (b : Int) : qc7 Try.prog 77 [(cInt .i64).enc a, (cInt .i64).enc b] ((cT2 (cInt .i64) qc3).enc (qb7 a b)) :=
 qdD hmix [qbF.e, qc1.e, qdC.e] 0 none Try.func77 rfl rfl (Eq.trans (by kernel_rfl) (qb7.t_eq a b fun r => some ((cT2 (cInt .i64) qc3).enc r, [])))
def qb7.e : qdU Try.prog := qf3 (cInt .i64) (cInt .i64) (cT2 (cInt .i64) qc3) 77 qb7 qb7.gives
def qc5.t {ρ : Type} (a : Int) (b : Int) (K : (Int × Bool) → Option ρ) : Option ρ := bif (!(qbF a)) then (K (0, false)) else (bif (!(qbF b)) then (K (0, false)) else (let t3 := (qb7 (w64 (0 - a)) b); K ((w64 (0 - t3.1)), t3.2)))
theorem qc5.t_eq {ρ : Type} (a : Int) (b : Int) (K : (Int × Bool) → Option ρ) : qc5.t a b K = K (qc5 a b) := cq (fun h0 => rfl) (fun h0 => cq (fun h1 => rfl) (fun h1 => rfl))
theorem qc5.gives (a : Int) (b : Int) : qc7 Try.prog 78 [(cInt .i64).enc a, (cInt .i64).enc b] ((cT2 (cInt .i64) qc3).enc (qc5 a b)) :=
 qdD hmix [qbF.e, qb7.e] 0 none Try.func78 rfl rfl (Eq.trans (by kernel_rfl) (qc5.t_eq a b fun r => some ((cT2 (cInt .i64) qc3).enc r, [])))
def qc5.e : qdU Try.prog := qf3 (cInt .i64) (cInt .i64) (cT2 (cInt .i64) qc3) 78 qc5 qc5.gives
def qb6.t {ρ : Type} (lo_0 : Int) (hi_1 : Int) (ok : Bool) (K : Iv → Option ρ) : Option ρ := bif ok then (bif (qa0 (Iv.mk lo_0 hi_1)) then (K (Iv.mk lo_0 hi_1)) else (K qaS)) else (K qaS)
theorem qb6.t_eq {ρ : Type} (lo_0 : Int) (hi_1 : Int) (ok : Bool) (K : Iv → Option ρ) : qb6.t lo_0 hi_1 ok K = K (qb6 lo_0 hi_1 ok) := cq (fun h0 => cq (fun h1 => rfl) (fun h1 => rfl)) (fun h0 => rfl)
theorem qb6.gives (lo_0 : Int) (hi_1 : Int) (ok : Bool) : qc7 Try.prog 75 [(cInt .i64).enc lo_0, (cInt .i64).enc hi_1, qc3.enc ok] (cIv.enc (qb6 lo_0 hi_1 ok)) :=
 qdD hmix [qa0.e, qaS.e] 0 none Try.func75 rfl rfl (Eq.trans (by kernel_rfl) (qb6.t_eq lo_0 hi_1 ok fun r => some (cIv.enc r, [])))
def qb6.e : qdU Try.prog := entry3 (cInt .i64) (cInt .i64) qc3 cIv 75 qb6 qb6.gives
def qbJ.t {ρ : Type} (a : Iv) (b : Iv) (K : Iv → Option ρ) : Option ρ := bif (!(qbX a b)) then (K qaS) else (let t3 := (qb7 a.lo b.lo); let t4 := (qc5 a.lo b.lo); bif (!t3.2) then (K qaS) else (bif (!t4.2) then (K qaS) else (let t7 := (qb7 a.lo b.hi); let t8 := (qc5 a.lo b.hi); bif (!t7.2) then (K qaS) else (bif (!t8.2) then (K qaS) else (let t11 := (qb7 a.hi b.lo); let t12 := (qc5 a.hi b.lo); bif (!t11.2) then (K qaS) else (bif (!t12.2) then (K qaS) else (let t15 := (qb7 a.hi b.hi); let t16 := (qc5 a.hi b.hi); bif (!t15.2) then (K qaS) else (bif (!t16.2) then (K qaS) else (K (qb6 (mnI (mnI (mnI (mnI t3.1 t3.1) t7.1) t11.1) t15.1) (mxI (mxI (mxI (mxI t4.1 t4.1) t8.1) t12.1) t16.1) true))))))))))
theorem qbJ.t_eq {ρ : Type} (a : Iv) (b : Iv) (K : Iv → Option ρ) : qbJ.t a b K = K (qbJ a b) := cq (fun h0 => rfl) (fun h0 => cq (fun h1 => rfl) (fun h1 => cq (fun h2 => rfl) (fun h2 => cq (fun h3 => rfl) (fun h3 => cq (fun h4 => rfl) (fun h4 => cq (fun h5 => rfl) (fun h5 => cq (fun h6 => rfl) (fun h6 => cq (fun h7 => rfl) (fun h7 => cq (fun h8 => rfl) (fun h8 => rfl)))))))))
theorem qbJ.gives (a : Iv) (b : Iv) : qc7 Try.prog 39 [cIv.enc a, cIv.enc b] (cIv.enc (qbJ a b)) :=
 qdD hmix [qbX.e, qaS.e, (inl hmix [qb7.e, qc5.e, qaS.e, qb6.e] 3 76 Try.f76 Try.func76 rfl)] 3 none Try.func39 rfl rfl (Eq.trans (by kernel_rfl) (qbJ.t_eq a b fun r => some (cIv.enc r, [])))
def qbJ.e : qdU Try.prog := qf3 cIv cIv cIv 39 qbJ qbJ.gives
def qbV.t {ρ : Type} (a : Iv) (b : Iv) (K : Iv → Option ρ) : Option ρ := bif (!(qbX a b)) then (K qaS) else (K (qb6 (w64 (a.lo + b.lo)) (w64 (a.hi + b.hi)) true))
theorem qbV.t_eq {ρ : Type} (a : Iv) (b : Iv) (K : Iv → Option ρ) : qbV.t a b K = K (qbV a b) := cq (fun h0 => rfl) (fun h0 => rfl)
theorem qbV.gives (a : Iv) (b : Iv) : qc7 Try.prog 38 [cIv.enc a, cIv.enc b] (cIv.enc (qbV a b)) :=
 qdD hmix [qbX.e, qaS.e, qb6.e] 0 none Try.func38 rfl rfl (Eq.trans (by kernel_rfl) (qbV.t_eq a b fun r => some (cIv.enc r, [])))
def qbV.e : qdU Try.prog := qf3 cIv cIv cIv 38 qbV qbV.gives
def qaH.ls : Option (List Nat) := some [0, 3, 4, 5, 6]
def qaH.env5 (list : List Value) (x_lo : Int) (x_hi : Int) (v : Int × Int × Int) : Env := [(0, .slice (some ⟨0, 0, some 0⟩) 0 0), (3, .pointer (some ⟨1, 0, none⟩)), (4, .pointer (some ⟨2, 0, none⟩)), (5, .pointer (some ⟨3, 0, none⟩)), (6, .int .i64 v.1)]
def qaH.heap5 (list : List Value) (x_lo : Int) (x_hi : Int) (v : Int × Int × Int) : LH := [(lstC list false (.agg #[.int .i64 0, .int .i64 0]), 31), (#[.int .i64 x_lo, .int .i64 x_hi], 31), (#[.int .i64 0, .int .i64 0], 31), (#[.int .i64 v.2.1, .int .i64 v.2.2], 31)]
def qaH.L5 : LEntry := ⟨5, fun _ tm σ K => match tm, σ with
 | [(0, .slice (some ⟨0, 0, some 0⟩) 0 0), (3, .pointer (some ⟨1, 0, none⟩)), (4, .pointer (some ⟨2, 0, none⟩)), (5, .pointer (some ⟨3, 0, none⟩)), (6, .int .i64 i)], [(⟨[.tuple ⟨list⟩, .bool false, .agg ⟨[.int .i64 0, .int .i64 0]⟩]⟩, 31), (⟨[.int .i64 x_lo, .int .i64 x_hi]⟩, 31), (⟨[.int .i64 0, .int .i64 0]⟩, 31), (⟨[.int .i64 p_lo, .int .i64 p_hi]⟩, 31)] => (match decide (-1 ≤ i ∧ i < (list.length : Int) ∧ (list.length : Int) ≤ 1048576) with | true => K (.exit 0) (qaH.env5 list x_lo x_hi (qaH.fin5 list x_lo x_hi (i, p_lo, p_hi))) (qaH.heap5 list x_lo x_hi (qaH.fin5 list x_lo x_hi (i, p_lo, p_hi))) | false => none)
 | _, _ => none⟩
def qaH.lt5 {ρ : Type} (list : List Value) (x_lo : Int) (x_hi : Int) (i : Int) (p_lo : Int) (p_hi : Int) (K : Sum (Int × Int × Int) (Int × Int × Int) → Option ρ) : Option ρ := bif decide (i ≥ 0) then (bif decide (0 ≤ i ∧ i < (list.length : Int)) then (bif decide ((Int.toNat i) < list.length) then (let t6 := (qbV (qbJ (Iv.mk p_lo p_hi) (Iv.mk x_lo x_hi)) (atIv list false i)); K (Sum.inl ((w64 (i - 1)), t6.lo, t6.hi))) else none) else none) else (K (Sum.inr (i, p_lo, p_hi)))
theorem qaH.lt5_eq {ρ : Type} (list : List Value) (x_lo : Int) (x_hi : Int) (i : Int) (p_lo : Int) (p_hi : Int) (hpre : -1 ≤ i ∧ i < (list.length : Int) ∧ (list.length : Int) ≤ 1048576) (K : Sum (Int × Int × Int) (Int × Int × Int) → Option ρ) : qaH.lt5 list x_lo x_hi i p_lo p_hi K = K (qaH.rnd5 list x_lo x_hi i p_lo p_hi) := cq (fun h0 => cqT (by first | exact qd6 _ | (simp only [decide_eq_true_eq, decide_eq_false_iff_not] at *; omega) | (simp only [Bool.not_eq_eq_eq_not, Bool.not_false, qfB, qdS, decide_eq_true_eq, decide_eq_false_iff_not, qdI, qcE] at *; omega)) (fun h1 => cqT (by first | exact qd6 _ | (simp only [decide_eq_true_eq, decide_eq_false_iff_not] at *; omega) | (simp only [Bool.not_eq_eq_eq_not, Bool.not_false, qfB, qdS, decide_eq_true_eq, decide_eq_false_iff_not, qdI, qcE] at *; omega)) (fun h2 => rfl))) (fun h0 => rfl)
theorem qaH.step5 (list : List Value) (x_lo : Int) (x_hi : Int) (i : Int) (p_lo : Int) (p_hi : Int) (k : Nat) (R : Type) (K : LX → Env → LH → Option R) : qeT Try.prog 1 qaH.ls (k + 1) (exec Try.prog (tab (P := Try.prog) [qaQ.e, qaS.e, qaO.e, qbJ.e, qbV.e]) 1 37 0 qaH.ls (lam [qaH.L5]) (cOf Try.f11 0)) (qaH.env5 list x_lo x_hi (i, p_lo, p_hi)) (qaH.heap5 list x_lo x_hi (i, p_lo, p_hi)) K = qaH.lt5 list x_lo x_hi i p_lo p_hi (sumK (fun v => qeT Try.prog 1 qaH.ls k (exec Try.prog (tab (P := Try.prog) [qaQ.e, qaS.e, qaO.e, qbJ.e, qbV.e]) 1 37 0 qaH.ls (lam [qaH.L5]) (cOf Try.f11 0)) (qaH.env5 list x_lo x_hi v) (qaH.heap5 list x_lo x_hi v) K) (fun v => K (.exit 0) (qaH.env5 list x_lo x_hi v) (qaH.heap5 list x_lo x_hi v))) := by kernel_rfl
theorem qaH.dec5 (list : List Value) (x_lo : Int) (x_hi : Int) (v : Int × Int × Int) (hv : -1 ≤ v.1 ∧ v.1 < (list.length : Int) ∧ (list.length : Int) ≤ 1048576) (v' : Int × Int × Int) (hr : qaH.rnd5 list x_lo x_hi v.1 v.2.1 v.2.2 = Sum.inl v') : (-1 ≤ v'.1 ∧ v'.1 < (list.length : Int) ∧ (list.length : Int) ≤ 1048576) ∧ (v'.1 + 1).toNat < (v.1 + 1).toNat := by
 exact dec_PolyAt hv hr
theorem qaH.to5 : qaH.L5.Ok Try.prog (tab (P := Try.prog) [qaQ.e, qaS.e, qaO.e, qbJ.e, qbV.e]) 1 37 0 qaH.ls (lam [qaH.L5]) (cOf Try.f11 0) := by
 intro R tm σ K r h
 simp only [qaH.L5] at h
 split at h
 case h_2 => simp at h
 split at h
 case h_2 => simp at h
 rename_i i list x_lo x_hi p_lo p_hi _ hc
 exact ⟨_, _, _, h, loop_to (x := 0) (rnd := (fun v : Int × Int × Int => qaH.rnd5 list x_lo x_hi v.1 v.2.1 v.2.2)) (env := fun v : Int × Int × Int => qaH.env5 list x_lo x_hi v) (heap := fun v : Int × Int × Int => qaH.heap5 list x_lo x_hi v) (Inv := (fun v : Int × Int × Int => -1 ≤ v.1 ∧ v.1 < (list.length : Int) ∧ (list.length : Int) ≤ 1048576)) (μ := (fun v : Int × Int × Int => (v.1 + 1).toNat)) (fun v hv k R K => (qaH.step5 list x_lo x_hi v.1 v.2.1 v.2.2 k R K).trans (qaH.lt5_eq list x_lo x_hi v.1 v.2.1 v.2.2 hv (sumK (fun v => qeT Try.prog 1 qaH.ls k (exec Try.prog (tab (P := Try.prog) [qaQ.e, qaS.e, qaO.e, qbJ.e, qbV.e]) 1 37 0 qaH.ls (lam [qaH.L5]) (cOf Try.f11 0)) (qaH.env5 list x_lo x_hi v) (qaH.heap5 list x_lo x_hi v) K) (fun v => K (.exit 0) (qaH.env5 list x_lo x_hi v) (qaH.heap5 list x_lo x_hi v))))) (fun v hv v' hr => qaH.dec5 list x_lo x_hi v hv v' hr) 1048577 (i, p_lo, p_hi) (by have := of_decide_eq_true hc; first | exact this | (simp only []; exact this)) (by have := of_decide_eq_true hc; first | omega | (simp only []; omega))⟩
theorem qaH.lok : ∀ c, Try.f11.body = some c → qh8 Try.prog (tab (P := Try.prog) [qaQ.e, qaS.e, qaO.e, qbJ.e, qbV.e]) 1 Try.f11.ntmps 0 qaH.ls (lam [qaH.L5]) (qc8 c) := by
 intro c hc
 have hb : qc8 c = [(cOf Try.f11 0)] := by
  have h : qc8 (Try.f11.body.getD .skip) = [(cOf Try.f11 0)] := by kernel_rfl
  rw [hc] at h
  exact h
 exact lam_ok1 hb qaH.to5
def qaH.t {ρ : Type} (list : List Value) (x : Iv) (K : Iv → Option ρ) : Option ρ := bif decide ((list.length : Int) ≤ 1048576) then (bif (!(qaQ list)) then (K qaS) else (bif (qaO x) then (K qaS) else (bif decide (0 ≤ (w64 ((list.length : Int) - 1)) ∧ (w64 ((list.length : Int) - 1)) < (list.length : Int)) then (bif decide ((Int.toNat (w64 ((list.length : Int) - 1))) < list.length) then (bif decide (-1 ≤ (w64 ((list.length : Int) - 2)) ∧ (w64 ((list.length : Int) - 2)) < (list.length : Int) ∧ (list.length : Int) ≤ 1048576) then (let t5 := (qaH.fin5 list x.lo x.hi ((w64 ((list.length : Int) - 2)), (atIv list false ((w64 ((list.length : Int) - 1)))).lo, (atIv list false ((w64 ((list.length : Int) - 1)))).hi)); K (Iv.mk t5.2.1 t5.2.2)) else none) else none) else none))) else none
theorem qaH.t_eq {ρ : Type} (list : List Value) (x : Iv) (hpre : (decide ((list.length : Int) ≤ 1048576)) = true) (K : Iv → Option ρ) : qaH.t list x K = K (qaH list x) := cqT (by first | exact hpre | (have hv := qhU hpre h1; simp only [decide_eq_true_eq, qdI] at *; omega)) (fun h0 => cq (fun h1 => rfl) (fun h1 => cq (fun h2 => rfl) (fun h2 => cqT (by first | exact hpre | (have hv := qhU hpre h1; simp only [decide_eq_true_eq, qdI] at *; omega)) (fun h3 => cqT (by first | exact hpre | (have hv := qhU hpre h1; simp only [decide_eq_true_eq, qdI] at *; omega)) (fun h4 => cqT (by first | exact hpre | (have hv := qhU hpre h1; simp only [decide_eq_true_eq, qdI] at *; omega)) (fun h5 => rfl))))))
theorem qaH.gives (list : List Value) (x : Iv) (hpre : (decide ((list.length : Int) ≤ 1048576)) = true) : qeO Try.prog 11 [(aL (.agg #[.int .i64 0, .int .i64 0]) 31).enc list, (aV cIv).enc x] (cIv.enc (qaH list x)) :=
 qfH hmix [qaQ.e, qaS.e, qaO.e, qbJ.e, qbV.e] 0 qaH.ls (lam [qaH.L5]) Try.func11 rfl qaH.lok (Eq.trans (by kernel_rfl) (qaH.t_eq list x hpre fun r => some (cIv.enc r, qaU [(aL (.agg #[.int .i64 0, .int .i64 0]) 31).enc list, (aV cIv).enc x])))
def qaH.e : qdU Try.prog := entryA2 (aL (.agg #[.int .i64 0, .int .i64 0]) 31) (aV cIv) cIv 11 qaH (fun list x => decide ((list.length : Int) ≤ 1048576)) (fun list x h => qaH.gives list x h)
def qbT.t {ρ : Type} (n : Int) (low : Int) (high : Int) (K : Bool → Option ρ) : Option ρ := bif decide (n ≥ low) then (K (decide (n ≤ high))) else (K false)
theorem qbT.t_eq {ρ : Type} (n : Int) (low : Int) (high : Int) (K : Bool → Option ρ) : qbT.t n low high K = K (qbT n low high) := cq (fun h0 => rfl) (fun h0 => rfl)
theorem qbT.gives (n : Int) (low : Int) (high : Int) : qc7 Try.prog 40 [(cInt .i64).enc n, (cInt .i64).enc low, (cInt .i64).enc high] (qc3.enc (qbT n low high)) :=
 qdD hmix [] 0 none Try.func40 rfl rfl (Eq.trans (by kernel_rfl) (qbT.t_eq n low high fun r => some (qc3.enc r, [])))
def qbT.e : qdU Try.prog := entry3 (cInt .i64) (cInt .i64) (cInt .i64) qc3 40 qbT qbT.gives
def qaZ.t {ρ : Type} (K : Iv → Option ρ) : Option ρ := K (Iv.mk (-1152921504606846976) 1152921504606846976)
theorem qaZ.t_eq {ρ : Type} (K : Iv → Option ρ) : qaZ.t K = K qaZ := rfl
theorem qaZ.gives : qc7 Try.prog 41 [] (cIv.enc qaZ) :=
 qdD hmix [] 0 none Try.func41 rfl rfl (Eq.trans (by kernel_rfl) (qaZ.t_eq fun r => some (cIv.enc r, [])))
def qaZ.e : qdU Try.prog := entry0 cIv 41 qaZ qaZ.gives
def qaF.t {ρ : Type} (a : Iv) (K : Bool → Option ρ) : Option ρ := bif decide ((-1152921504606846976) < a.lo) then (bif decide (a.lo ≤ a.hi) then (K (decide (a.hi < 1152921504606846976))) else (K false)) else (K false)
theorem qaF.t_eq {ρ : Type} (a : Iv) (K : Bool → Option ρ) : qaF.t a K = K (qaF a) := cq (fun h0 => cq (fun h1 => rfl) (fun h1 => rfl)) (fun h0 => rfl)
theorem qaF.gives (a : Iv) : qc7 Try.prog 33 [cIv.enc a] (qc3.enc (qaF a)) :=
 qdD hmix [] 0 none Try.func33 rfl rfl (Eq.trans (by kernel_rfl) (qaF.t_eq a fun r => some (qc3.enc r, [])))
def qaF.e : qdU Try.prog := qgW cIv qc3 33 qaF qaF.gives
def qb4.t {ρ : Type} (lo_0 : Int) (hi_1 : Int) (K : Iv → Option ρ) : Option ρ := bif (!(qaF (Iv.mk lo_0 hi_1))) then (K qaZ) else (K (Iv.mk lo_0 hi_1))
theorem qb4.t_eq {ρ : Type} (lo_0 : Int) (hi_1 : Int) (K : Iv → Option ρ) : qb4.t lo_0 hi_1 K = K (qb4 lo_0 hi_1) := cq (fun h0 => rfl) (fun h0 => rfl)
theorem qb4.gives (lo_0 : Int) (hi_1 : Int) : qc7 Try.prog 42 [(cInt .i64).enc lo_0, (cInt .i64).enc hi_1] (cIv.enc (qb4 lo_0 hi_1)) :=
 qdD hmix [qaF.e, qaZ.e] 0 none Try.func42 rfl rfl (Eq.trans (by kernel_rfl) (qb4.t_eq lo_0 hi_1 fun r => some (cIv.enc r, [])))
def qb4.e : qdU Try.prog := qf3 (cInt .i64) (cInt .i64) cIv 42 qb4 qb4.gives
def qa7.t {ρ : Type} (n : Int) (K : Iv → Option ρ) : Option ρ := bif (!(qbT n (-268435455) 268435455)) then (K qaZ) else (K (qb4 (w64 (n * 4294967296)) (w64 (n * 4294967296))))
theorem qa7.t_eq {ρ : Type} (n : Int) (K : Iv → Option ρ) : qa7.t n K = K (qa7 n) := cq (fun h0 => rfl) (fun h0 => rfl)
theorem qa7.gives (n : Int) : qc7 Try.prog 12 [(cInt .i64).enc n] (cIv.enc (qa7 n)) :=
 qdD hmix [qbT.e, qaZ.e, qb4.e] 0 none Try.func12 rfl rfl (Eq.trans (by kernel_rfl) (qa7.t_eq n fun r => some (cIv.enc r, [])))
def qcX.t {ρ : Type} (x : Iv) (K : Int → Option ρ) : Option ρ := bif (qaO x) then (K 0) else (bif decide (x.lo > 0) then (K 1) else (bif decide (x.hi < 0) then (K (-1)) else (K 0)))
theorem qcX.t_eq {ρ : Type} (x : Iv) (K : Int → Option ρ) : qcX.t x K = K (qcX x) := cq (fun h0 => rfl) (fun h0 => cq (fun h1 => rfl) (fun h1 => cq (fun h2 => rfl) (fun h2 => rfl)))
theorem qcX.gives (x : Iv) : qc7 Try.prog 51 [cIv.enc x] ((cInt .i64).enc (qcX x)) :=
 qdD hmix [qaO.e] 0 none Try.func51 rfl rfl (Eq.trans (by kernel_rfl) (qcX.t_eq x fun r => some ((cInt .i64).enc r, [])))
def qcX.e : qdU Try.prog := qgW cIv (cInt .i64) 51 qcX qcX.gives
def qaR.t {ρ : Type} (a : Iv) (K : Int → Option ρ) : Option ρ := bif (qaO a) then (K 0) else (K (Int.fdiv (w64 (a.lo + a.hi)) 2))
theorem qaR.t_eq {ρ : Type} (a : Iv) (K : Int → Option ρ) : qaR.t a K = K (qaR a) := cq (fun h0 => rfl) (fun h0 => rfl)
theorem qaR.gives (a : Iv) : qc7 Try.prog 44 [cIv.enc a] ((cInt .i64).enc (qaR a)) :=
 qdD hmix [qaO.e] 0 none Try.func44 rfl rfl (Eq.trans (by kernel_rfl) (qaR.t_eq a fun r => some ((cInt .i64).enc r, [])))
def qaR.e : qdU Try.prog := qgW cIv (cInt .i64) 44 qaR qaR.gives
def qbW.t {ρ : Type} (n : Int) (K : Iv → Option ρ) : Option ρ := K (Iv.mk n n)
theorem qbW.t_eq {ρ : Type} (n : Int) (K : Iv → Option ρ) : qbW.t n K = K (qbW n) := rfl
theorem qbW.gives (n : Int) : qc7 Try.prog 46 [(cInt .i64).enc n] (cIv.enc (qbW n)) :=
 qdD hmix [] 0 none Try.func46 rfl rfl (Eq.trans (by kernel_rfl) (qbW.t_eq n fun r => some (cIv.enc r, [])))
def qbW.e : qdU Try.prog := qgW (cInt .i64) cIv 46 qbW qbW.gives
def qd0.t {ρ : Type} (a : Iv) (K : Iv → Option ρ) : Option ρ := bif (qaO a) then (K qaS) else (K (Iv.mk (w64 (0 - a.hi)) (w64 (0 - a.lo))))
theorem qd0.t_eq {ρ : Type} (a : Iv) (K : Iv → Option ρ) : qd0.t a K = K (qd0 a) := cq (fun h0 => rfl) (fun h0 => rfl)
theorem qd0.gives (a : Iv) : qc7 Try.prog 79 [cIv.enc a] (cIv.enc (qd0 a)) :=
 qdD hmix [qaO.e, qaS.e] 0 none Try.func79 rfl rfl (Eq.trans (by kernel_rfl) (qd0.t_eq a fun r => some (cIv.enc r, [])))
def qd0.e : qdU Try.prog := qgW cIv cIv 79 qd0 qd0.gives
def qcG.t {ρ : Type} (a : Iv) (b : Iv) (K : Iv → Option ρ) : Option ρ := K (qbV a (qd0 b))
theorem qcG.t_eq {ρ : Type} (a : Iv) (b : Iv) (K : Iv → Option ρ) : qcG.t a b K = K (qcG a b) := rfl
theorem qcG.gives (a : Iv) (b : Iv) : qc7 Try.prog 48 [cIv.enc a, cIv.enc b] (cIv.enc (qcG a b)) :=
 qdD hmix [qd0.e, qbV.e] 0 none Try.func48 rfl rfl (Eq.trans (by kernel_rfl) (qcG.t_eq a b fun r => some (cIv.enc r, [])))
def qcG.e : qdU Try.prog := qf3 cIv cIv cIv 48 qcG qcG.gives
def qcF.t {ρ : Type} (n : Int) (K : Iv → Option ρ) : Option ρ := bif (!(qbI n (-268435456) 268435456)) then (K qaS) else (K (qb6 (w64 (n * 4294967296)) (w64 (n * 4294967296)) true))
theorem qcF.t_eq {ρ : Type} (n : Int) (K : Iv → Option ρ) : qcF.t n K = K (qcF n) := cq (fun h0 => rfl) (fun h0 => rfl)
theorem qcF.gives (n : Int) : qc7 Try.prog 68 [(cInt .i64).enc n] (cIv.enc (qcF n)) :=
 qdD hmix [qbI.e, qaS.e, qb6.e] 0 none Try.func68 rfl rfl (Eq.trans (by kernel_rfl) (qcF.t_eq n fun r => some (cIv.enc r, [])))
def qcF.e : qdU Try.prog := qgW (cInt .i64) cIv 68 qcF qcF.gives
def qaB.ls : Option (List Nat) := some [4, 16, 17, 18, 1000000, 3031004]
def qaB.env7 (list : List Value) (n : Int) (v : Int × List Value) : Env := [(4, .slice (some ⟨1, 0, some 0⟩) 0 0), (16, .slice (some ⟨0, 1, some 0⟩) 0 0), (17, .int .i64 n), (18, .int .i64 v.1)]
def qaB.heap7 (list : List Value) (n : Int) (v : Int × List Value) : LH := [(lstC list false (.agg #[.int .i64 0, .int .i64 0]), 31), (lstC v.2 true (.agg #[.int .i64 0, .int .i64 0]), 31)]
def qaB.L7 : LEntry := ⟨7, fun _ tm σ K => match tm, σ with
 | [(4, .slice (some ⟨1, 0, some 0⟩) 0 0), (16, .slice (some ⟨0, 1, some 0⟩) 0 0), (17, .int .i64 n), (18, .int .i64 i)], [(⟨[.tuple ⟨list⟩, .bool false, .agg ⟨[.int .i64 0, .int .i64 0]⟩]⟩, 31), (⟨[.tuple ⟨out⟩, .bool true, .agg ⟨[.int .i64 0, .int .i64 0]⟩]⟩, 31)] => (match decide (n = ((list.length - 1 : Nat) : Int) ∧ 0 ≤ i ∧ i ≤ ((list.length - 1 : Nat) : Int) ∧ (out.length : Int) = i ∧ (list.length : Int) ≤ 1048576) with | true => K (.exit 0) (qaB.env7 list n (qaB.fin7 list n (i, out))) (qaB.heap7 list n (qaB.fin7 list n (i, out))) | false => none)
 | _, _ => none⟩
def qaB.lt7 {ρ : Type} (list : List Value) (n : Int) (i : Int) (out : List Value) (K : Sum (Int × List Value) (Int × List Value) → Option ρ) : Option ρ := bif decide (i < n) then (bif decide (0 ≤ i ∧ i < ((list.length - 1 : Nat) : Int)) then (bif decide (((Int.toNat i) + 1) < list.length) then (let t4 := (qbJ (qcF (w64 (i + 1))) (atIvN list false (((Int.toNat i) + 1)))); bif decide ((out.length + 1) * 16 ≤ 140737488355328) then (K (Sum.inl ((w64 (i + 1)), ((Value.agg #[.int .i64 t4.lo, .int .i64 t4.hi]) :: out)))) else none) else none) else none) else (K (Sum.inr (i, out)))
theorem qaB.lt7_eq {ρ : Type} (list : List Value) (n : Int) (i : Int) (out : List Value) (hpre : n = ((list.length - 1 : Nat) : Int) ∧ 0 ≤ i ∧ i ≤ ((list.length - 1 : Nat) : Int) ∧ (out.length : Int) = i ∧ (list.length : Int) ≤ 1048576) (K : Sum (Int × List Value) (Int × List Value) → Option ρ) : qaB.lt7 list n i out K = K (qaB.rnd7 list n i out) := cq (fun h0 => cqT (by exact decide_eq_true (by have h9 := of_decide_eq_true h0; omega)) (fun h1 => cqT (by exact decide_eq_true (by have h9 := of_decide_eq_true h0; omega)) (fun h2 => cqT (by exact decide_eq_true (by have h9 := of_decide_eq_true h0; omega)) (fun h3 => rfl)))) (fun h0 => rfl)
theorem qaB.step7 (list : List Value) (n : Int) (i : Int) (out : List Value) (k : Nat) (R : Type) (K : LX → Env → LH → Option R) : qeT Try.prog 1 qaB.ls (k + 1) (exec Try.prog (tab (P := Try.prog) [qaQ.e, qcF.e, qbJ.e, (inl hmix [qbD.e] 1 66 Try.f66 Try.func66 rfl)]) 1 36 0 qaB.ls (lam [qaB.L7]) (cOf Try.f31 0)) (qaB.env7 list n (i, out)) (qaB.heap7 list n (i, out)) K = qaB.lt7 list n i out (sumK (fun v => qeT Try.prog 1 qaB.ls k (exec Try.prog (tab (P := Try.prog) [qaQ.e, qcF.e, qbJ.e, (inl hmix [qbD.e] 1 66 Try.f66 Try.func66 rfl)]) 1 36 0 qaB.ls (lam [qaB.L7]) (cOf Try.f31 0)) (qaB.env7 list n v) (qaB.heap7 list n v) K) (fun v => K (.exit 0) (qaB.env7 list n v) (qaB.heap7 list n v))) := by kernel_rfl
theorem qaB.dec7 (list : List Value) (n : Int) (v : Int × List Value) (hv : n = ((list.length - 1 : Nat) : Int) ∧ 0 ≤ v.1 ∧ v.1 ≤ ((list.length - 1 : Nat) : Int) ∧ (v.2.length : Int) = v.1 ∧ (list.length : Int) ≤ 1048576) (v' : Int × List Value) (hr : qaB.rnd7 list n v.1 v.2 = Sum.inl v') : (n = ((list.length - 1 : Nat) : Int) ∧ 0 ≤ v'.1 ∧ v'.1 ≤ ((list.length - 1 : Nat) : Int) ∧ (v'.2.length : Int) = v'.1 ∧ (list.length : Int) ≤ 1048576) ∧ (((list.length - 1 : Nat) : Int) - v'.1).toNat < (((list.length - 1 : Nat) : Int) - v.1).toNat := by
 exact dec_ider hv hr
theorem qaB.to7 : qaB.L7.Ok Try.prog (tab (P := Try.prog) [qaQ.e, qcF.e, qbJ.e, (inl hmix [qbD.e] 1 66 Try.f66 Try.func66 rfl)]) 1 36 0 qaB.ls (lam [qaB.L7]) (cOf Try.f31 0) := by
 intro R tm σ K r h
 simp only [qaB.L7] at h
 split at h
 case h_2 => simp at h
 split at h
 case h_2 => simp at h
 rename_i n i list out _ hc
 exact ⟨_, _, _, h, loop_to (x := 0) (rnd := (fun v : Int × List Value => qaB.rnd7 list n v.1 v.2)) (env := fun v : Int × List Value => qaB.env7 list n v) (heap := fun v : Int × List Value => qaB.heap7 list n v) (Inv := (fun v : Int × List Value => n = ((list.length - 1 : Nat) : Int) ∧ 0 ≤ v.1 ∧ v.1 ≤ ((list.length - 1 : Nat) : Int) ∧ (v.2.length : Int) = v.1 ∧ (list.length : Int) ≤ 1048576)) (μ := (fun v : Int × List Value => (((list.length - 1 : Nat) : Int) - v.1).toNat)) (fun v hv k R K => (qaB.step7 list n v.1 v.2 k R K).trans (qaB.lt7_eq list n v.1 v.2 hv (sumK (fun v => qeT Try.prog 1 qaB.ls k (exec Try.prog (tab (P := Try.prog) [qaQ.e, qcF.e, qbJ.e, (inl hmix [qbD.e] 1 66 Try.f66 Try.func66 rfl)]) 1 36 0 qaB.ls (lam [qaB.L7]) (cOf Try.f31 0)) (qaB.env7 list n v) (qaB.heap7 list n v) K) (fun v => K (.exit 0) (qaB.env7 list n v) (qaB.heap7 list n v))))) (fun v hv v' hr => qaB.dec7 list n v hv v' hr) 1048577 (i, out) (by have := of_decide_eq_true hc; first | exact this | (simp only []; exact this)) (by have := of_decide_eq_true hc; first | omega | (simp only []; omega))⟩
theorem qaB.lok : ∀ c, Try.f31.body = some c → qh8 Try.prog (tab (P := Try.prog) [qaQ.e, qcF.e, qbJ.e, (inl hmix [qbD.e] 1 66 Try.f66 Try.func66 rfl)]) 1 Try.f31.ntmps 0 qaB.ls (lam [qaB.L7]) (qc8 c) := by
 intro c hc
 have hb : qc8 c = [(cOf Try.f31 0)] := by
  have h : qc8 (Try.f31.body.getD .skip) = [(cOf Try.f31 0)] := by kernel_rfl
  rw [hc] at h
  exact h
 exact lam_ok1 hb qaB.to7
def qaB.t {ρ : Type} (list : List Value) (K : (List Value × Int) → Option ρ) : Option ρ := bif decide ((list.length : Int) ≤ 1048576) then (bif (!(qaQ list)) then (K (([] : List Value), 1)) else (bif ((list.length : Int) == 1) then (let t2 := (qcF 0); K ([(Value.agg #[.int .i64 t2.lo, .int .i64 t2.hi])], 0)) else (bif decide (0 ≤ (1 : Int) ∧ (1 : Int) < (list.length : Int)) then (bif decide (((list.length - 1 : Nat) : Int) = ((list.length - 1 : Nat) : Int) ∧ 0 ≤ (0 : Int) ∧ (0 : Int) ≤ ((list.length - 1 : Nat) : Int) ∧ (([] : List Value).length : Int) = (0 : Int) ∧ (list.length : Int) ≤ 1048576) then (let t3 := (qaB.fin7 list (((list.length - 1 : Nat) : Int)) (0, ([] : List Value))); bif decide (((List.reverse t3.2).length : Int) ≤ 1048576) then (bif (qbD (List.reverse t3.2) ()) then (K (([] : List Value), 9)) else (K (t3.2, 0))) else none) else none) else none))) else none
theorem qaB.t_eq {ρ : Type} (list : List Value) (hpre : (decide ((list.length : Int) ≤ 1048576)) = true) (K : (List Value × Int) → Option ρ) : qaB.t list K = K (qaB list) := cqT (by first | exact hpre | exact pd_ider1 hpre h1 h2 | exact pd_ider2 hpre | exact pd_ider3 hpre h1) (fun h0 => cq (fun h1 => rfl) (fun h1 => cq (fun h2 => rfl) (fun h2 => cqT (by first | exact hpre | exact pd_ider1 hpre h1 h2 | exact pd_ider2 hpre | exact pd_ider3 hpre h1) (fun h3 => cqT (by first | exact hpre | exact pd_ider1 hpre h1 h2 | exact pd_ider2 hpre | exact pd_ider3 hpre h1) (fun h4 => cqT (by first | exact hpre | exact pd_ider1 hpre h1 h2 | exact pd_ider2 hpre | exact pd_ider3 hpre h1) (fun h5 => cq (fun h6 => rfl) (fun h6 => rfl)))))))
theorem qaB.gives (list : List Value) (hpre : (decide ((list.length : Int) ≤ 1048576)) = true) : GivesAR2 Try.prog 31 [(aL (.agg #[.int .i64 0, .int .i64 0]) 31).enc list] (.agg #[.int .i64 0, .int .i64 0]) 31 (qaB list).1 ((cInt .i64).enc (qaB list).2) :=
 givesAR2_L hmix [qaQ.e, qcF.e, qbJ.e, (inl hmix [qbD.e] 1 66 Try.f66 Try.func66 rfl)] 0 qaB.ls (lam [qaB.L7]) Try.func31 rfl (by decide) qaB.lok (Eq.trans (by kernel_rfl) (qaB.t_eq list hpre fun r => some ((lstC r.1 true (.agg #[.int .i64 0, .int .i64 0]), 31), (cInt .i64).enc r.2)))
def qaB.e : qdU Try.prog := entryAR21 (aL (.agg #[.int .i64 0, .int .i64 0]) 31) (cInt .i64) (.agg #[.int .i64 0, .int .i64 0]) 31 31 qaB (fun list => decide ((list.length : Int) ≤ 1048576)) (fun list h => qaB.gives list h)
def qb0.t {ρ : Type} (list : List Value) (n : Int) (K : Int → Option ρ) : Option ρ := bif decide ((list.length : Int) ≤ 1048576) then (K (qcX (qaH list (qbW n)))) else none
theorem qb0.t_eq {ρ : Type} (list : List Value) (n : Int) (hpre : (decide ((list.length : Int) ≤ 1048576)) = true) (K : Int → Option ρ) : qb0.t list n K = K (qb0 list n) := cqT (by exact hpre) (fun h0 => rfl)
theorem qb0.gives (list : List Value) (n : Int) (hpre : (decide ((list.length : Int) ≤ 1048576)) = true) : qeO Try.prog 45 [(aL (.agg #[.int .i64 0, .int .i64 0]) 31).enc list, (aV (cInt .i64)).enc n] ((cInt .i64).enc (qb0 list n)) :=
 qfH hmix [qbW.e, qaH.e, qcX.e] 0 none noL Try.func45 rfl (fun _ _ => qhJ) (Eq.trans (by kernel_rfl) (qb0.t_eq list n hpre fun r => some ((cInt .i64).enc r, qaU [(aL (.agg #[.int .i64 0, .int .i64 0]) 31).enc list, (aV (cInt .i64)).enc n])))
def qb0.e : qdU Try.prog := entryA2 (aL (.agg #[.int .i64 0, .int .i64 0]) 31) (aV (cInt .i64)) (cInt .i64) 45 qb0 (fun list n => decide ((list.length : Int) ≤ 1048576)) (fun list n h => qb0.gives list n h)
def qdX.t {ρ : Type} (is : Bool) (K : Int → Option ρ) : Option ρ := bif is then (K 1) else (K 0)
theorem qdX.t_eq {ρ : Type} (is : Bool) (K : Int → Option ρ) : qdX.t is K = K (qdX is) := cq (fun h0 => rfl) (fun h0 => rfl)
theorem qdX.gives (is : Bool) : qc7 Try.prog 82 [qc3.enc is] ((cInt .i64).enc (qdX is)) :=
 qdD hmix [] 0 none Try.func82 rfl rfl (Eq.trans (by kernel_rfl) (qdX.t_eq is fun r => some ((cInt .i64).enc r, [])))
def qdX.e : qdU Try.prog := qgW qc3 (cInt .i64) 82 qdX qdX.gives
def qcJ.t {ρ : Type} (list : List Value) (x : Iv) (K : Int → Option ρ) : Option ρ := bif (qaO x) then (K 2) else (bif decide ((list.length : Int) ≤ 1048576) then (let t2 := (qb0 list x.lo); bif decide ((list.length : Int) ≤ 1048576) then (let t3 := (qb0 list x.hi); bif ((w64 (t2 * t3)) == 0) then (K 2) else (K (qdX (t2 != t3)))) else none) else none)
theorem qcJ.t_eq {ρ : Type} (list : List Value) (x : Iv) (hpre : (decide ((list.length : Int) ≤ 1048576)) = true) (K : Int → Option ρ) : qcJ.t list x K = K (qcJ list x) := cq (fun h0 => rfl) (fun h0 => cqT (by exact hpre) (fun h1 => cqT (by exact hpre) (fun h2 => cq (fun h3 => rfl) (fun h3 => rfl))))
theorem qcJ.gives (list : List Value) (x : Iv) (hpre : (decide ((list.length : Int) ≤ 1048576)) = true) : qeO Try.prog 50 [(aL (.agg #[.int .i64 0, .int .i64 0]) 31).enc list, (aV cIv).enc x] ((cInt .i64).enc (qcJ list x)) :=
 qfH hmix [qaO.e, qb0.e, qdX.e] 0 none noL Try.func50 rfl (fun _ _ => qhJ) (Eq.trans (by kernel_rfl) (qcJ.t_eq list x hpre fun r => some ((cInt .i64).enc r, qaU [(aL (.agg #[.int .i64 0, .int .i64 0]) 31).enc list, (aV cIv).enc x])))
def qcJ.e : qdU Try.prog := entryA2 (aL (.agg #[.int .i64 0, .int .i64 0]) 31) (aV cIv) (cInt .i64) 50 qcJ (fun list x => decide ((list.length : Int) ≤ 1048576)) (fun list x h => qcJ.gives list x h)
def qaT.t {ρ : Type} (list : List Value) (x : Iv) (K : Bool → Option ρ) : Option ρ := bif decide ((list.length : Int) ≤ 1048576) then (let t1 := (qaB list); bif (t1.2 == 0) then (bif decide ((list.length : Int) ≤ 1048576) then (bif ((qcJ list x) == 1) then (bif decide (((List.reverse t1.1).length : Int) ≤ 1048576) then (K ((qcX (qaH (List.reverse t1.1) x)) != 0)) else none) else (K false)) else none) else (K false)) else none
theorem qaT.t_eq {ρ : Type} (list : List Value) (x : Iv) (hpre : (decide ((list.length : Int) ≤ 1048576)) = true) (K : Bool → Option ρ) : qaT.t list x K = K (qaT list x) := cqT (by first | exact hpre | exact pd_iuni hpre h1) (fun h0 => cq (fun h1 => cqT (by first | exact hpre | exact pd_iuni hpre h1) (fun h2 => cq (fun h3 => cqT (by first | exact hpre | exact pd_iuni hpre h1) (fun h4 => rfl)) (fun h3 => rfl))) (fun h1 => rfl))
theorem qaT.gives (list : List Value) (x : Iv) (hpre : (decide ((list.length : Int) ≤ 1048576)) = true) : qeO Try.prog 17 [(aL (.agg #[.int .i64 0, .int .i64 0]) 31).enc list, (aV cIv).enc x] (qc3.enc (qaT list x)) :=
 qfH hmix [qaB.e, qcJ.e, qaH.e, qcX.e] 0 none noL Try.func17 rfl (fun _ _ => qhJ) (Eq.trans (by kernel_rfl) (qaT.t_eq list x hpre fun r => some (qc3.enc r, qaU [(aL (.agg #[.int .i64 0, .int .i64 0]) 31).enc list, (aV cIv).enc x])))
def qaT.e : qdU Try.prog := entryA2 (aL (.agg #[.int .i64 0, .int .i64 0]) 31) (aV cIv) qc3 17 qaT (fun list x => decide ((list.length : Int) ≤ 1048576)) (fun list x h => qaT.gives list x h)
def qdF.t {ρ : Type} (a : Iv) (K : Int → Option ρ) : Option ρ := bif (qaO a) then (K (-1)) else (K (w64 (a.hi - a.lo)))
theorem qdF.t_eq {ρ : Type} (a : Iv) (K : Int → Option ρ) : qdF.t a K = K (qdF a) := cq (fun h0 => rfl) (fun h0 => rfl)
theorem qdF.gives (a : Iv) : qc7 Try.prog 70 [cIv.enc a] ((cInt .i64).enc (qdF a)) :=
 qdD hmix [qaO.e] 0 none Try.func70 rfl rfl (Eq.trans (by kernel_rfl) (qdF.t_eq a fun r => some ((cInt .i64).enc r, [])))
def qbY.t {ρ : Type} (list : List Value) (x : Iv) (steps : Int) (K : Int → Option ρ) : Option ρ := bif decide ((list.length : Int) ≤ 1048576) then (bif (!(qaQ list)) then (K 1) else (bif (qaO x) then (K 1) else (bif (!(qbI steps 0 60)) then (K 2) else (K 0)))) else none
theorem qbY.t_eq {ρ : Type} (list : List Value) (x : Iv) (steps : Int) (hpre : (decide ((list.length : Int) ≤ 1048576)) = true) (K : Int → Option ρ) : qbY.t list x steps K = K (qbY list x steps) := cqT (by exact hpre) (fun h0 => cq (fun h1 => rfl) (fun h1 => cq (fun h2 => rfl) (fun h2 => cq (fun h3 => rfl) (fun h3 => rfl))))
theorem qbY.gives (list : List Value) (x : Iv) (steps : Int) (hpre : (decide ((list.length : Int) ≤ 1048576)) = true) : qeO Try.prog 30 [(aL (.agg #[.int .i64 0, .int .i64 0]) 31).enc list, (aV cIv).enc x, (aV (cInt .i64)).enc steps] ((cInt .i64).enc (qbY list x steps)) :=
 qfH hmix [qaQ.e, qaO.e, qbI.e] 0 none noL Try.func30 rfl (fun _ _ => qhJ) (Eq.trans (by kernel_rfl) (qbY.t_eq list x steps hpre fun r => some ((cInt .i64).enc r, qaU [(aL (.agg #[.int .i64 0, .int .i64 0]) 31).enc list, (aV cIv).enc x, (aV (cInt .i64)).enc steps])))
def qbY.e : qdU Try.prog := entryA3 (aL (.agg #[.int .i64 0, .int .i64 0]) 31) (aV cIv) (aV (cInt .i64)) (cInt .i64) 30 qbY (fun list x steps => decide ((list.length : Int) ≤ 1048576)) (fun list x steps h => qbY.gives list x steps h)
def qbE.t {ρ : Type} (list : List Value) (x : Iv) (steps : Int) (K : Int → Option ρ) : Option ρ := bif decide ((list.length : Int) ≤ 1048576) then (let t1 := (qbY list x steps); bif (t1 == 0) then (bif decide ((list.length : Int) ≤ 1048576) then (bif (!(qaT list x)) then (K 6) else (K t1)) else none) else (K t1)) else none
theorem qbE.t_eq {ρ : Type} (list : List Value) (x : Iv) (steps : Int) (hpre : (decide ((list.length : Int) ≤ 1048576)) = true) (K : Int → Option ρ) : qbE.t list x steps K = K (qbE list x steps) := cqT (by exact hpre) (fun h0 => cq (fun h1 => cqT (by exact hpre) (fun h2 => cq (fun h3 => rfl) (fun h3 => rfl))) (fun h1 => rfl))
theorem qbE.gives (list : List Value) (x : Iv) (steps : Int) (hpre : (decide ((list.length : Int) ≤ 1048576)) = true) : qeO Try.prog 43 [(aL (.agg #[.int .i64 0, .int .i64 0]) 31).enc list, (aV cIv).enc x, (aV (cInt .i64)).enc steps] ((cInt .i64).enc (qbE list x steps)) :=
 qfH hmix [qbY.e, qaT.e] 0 none noL Try.func43 rfl (fun _ _ => qhJ) (Eq.trans (by kernel_rfl) (qbE.t_eq list x steps hpre fun r => some ((cInt .i64).enc r, qaU [(aL (.agg #[.int .i64 0, .int .i64 0]) 31).enc list, (aV cIv).enc x, (aV (cInt .i64)).enc steps])))
def qbE.e : qdU Try.prog := entryA3 (aL (.agg #[.int .i64 0, .int .i64 0]) 31) (aV cIv) (aV (cInt .i64)) (cInt .i64) 43 qbE (fun list x steps => decide ((list.length : Int) ≤ 1048576)) (fun list x steps h => qbE.gives list x steps h)
def qaJ.ls : Option (List Nat) := some [0, 4, 6, 19, 20]
def qaJ.env5 (list : List Value) (n : Int) (v : Int × Int × Int) : Env := [(0, .slice (some ⟨0, 0, some 0⟩) 0 0), (4, .pointer (some ⟨1, 0, none⟩)), (6, .pointer (some ⟨2, 0, none⟩)), (19, .int .i64 n), (20, .int .i64 v.1)]
def qaJ.heap5 (list : List Value) (n : Int) (v : Int × Int × Int) : LH := [(lstC list false (.agg #[.int .i64 0, .int .i64 0]), 31), (#[.int .i64 v.2.1, .int .i64 v.2.2], 31), (#[.int .i64 0, .int .i64 0], 31)]
def qaJ.L5 : LEntry := ⟨5, fun _ tm σ K => match tm, σ with
 | [(0, .slice (some ⟨0, 0, some 0⟩) 0 0), (4, .pointer (some ⟨1, 0, none⟩)), (6, .pointer (some ⟨2, 0, none⟩)), (19, .int .i64 n), (20, .int .i64 i)], [(⟨[.tuple ⟨list⟩, .bool false, .agg ⟨[.int .i64 0, .int .i64 0]⟩]⟩, 31), (⟨[.int .i64 lo, .int .i64 hi]⟩, 31), (⟨[.int .i64 0, .int .i64 0]⟩, 31)] => (match decide (0 ≤ i ∧ i ≤ n ∧ n ≤ 60 ∧ (list.length : Int) ≤ 1048576) with | true => K (.exit 0) (qaJ.env5 list n (qaJ.fin5 list n (i, lo, hi))) (qaJ.heap5 list n (qaJ.fin5 list n (i, lo, hi))) | false => none)
 | _, _ => none⟩
def qaJ.lt5 {ρ : Type} (list : List Value) (n : Int) (i : Int) (lo : Int) (hi : Int) (K : Sum (Int × Int × Int) (Int × Int × Int) → Option ρ) : Option ρ := bif decide (i < n) then (let t2 := (qaR (Iv.mk lo hi)); bif decide ((list.length : Int) ≤ 1048576) then (let t3 := (qb0 list t2); bif (t2 == lo) then (K (Sum.inr (i, lo, hi))) else (bif (t2 == hi) then (K (Sum.inr (i, lo, hi))) else (bif (t3 == 0) then (K (Sum.inr (i, lo, hi))) else (bif decide ((list.length : Int) ≤ 1048576) then (bif (t3 == (qb0 list lo)) then (K (Sum.inl ((w64 (i + 1)), t2, hi))) else (K (Sum.inl ((w64 (i + 1)), lo, t2)))) else none)))) else none) else (K (Sum.inr (i, lo, hi)))
theorem qaJ.lt5_eq {ρ : Type} (list : List Value) (n : Int) (i : Int) (lo : Int) (hi : Int) (hpre : 0 ≤ i ∧ i ≤ n ∧ n ≤ 60 ∧ (list.length : Int) ≤ 1048576) (K : Sum (Int × Int × Int) (Int × Int × Int) → Option ρ) : qaJ.lt5 list n i lo hi K = K (qaJ.rnd5 list n i lo hi) := cq (fun h0 => cqT (by exact decide_eq_true (by omega)) (fun h1 => cq (fun h2 => rfl) (fun h2 => cq (fun h3 => rfl) (fun h3 => cq (fun h4 => rfl) (fun h4 => cqT (by exact decide_eq_true (by omega)) (fun h5 => cq (fun h6 => rfl) (fun h6 => rfl))))))) (fun h0 => rfl)
theorem qaJ.step5 (list : List Value) (n : Int) (i : Int) (lo : Int) (hi : Int) (k : Nat) (R : Type) (K : LX → Env → LH → Option R) : qeT Try.prog 1 qaJ.ls (k + 1) (exec Try.prog (tab (P := Try.prog) [qbE.e, qaR.e, qb0.e]) 1 53 0 qaJ.ls (lam [qaJ.L5]) (cOf Try.f13 0)) (qaJ.env5 list n (i, lo, hi)) (qaJ.heap5 list n (i, lo, hi)) K = qaJ.lt5 list n i lo hi (sumK (fun v => qeT Try.prog 1 qaJ.ls k (exec Try.prog (tab (P := Try.prog) [qbE.e, qaR.e, qb0.e]) 1 53 0 qaJ.ls (lam [qaJ.L5]) (cOf Try.f13 0)) (qaJ.env5 list n v) (qaJ.heap5 list n v) K) (fun v => K (.exit 0) (qaJ.env5 list n v) (qaJ.heap5 list n v))) := by kernel_rfl
theorem qaJ.dec5 (list : List Value) (n : Int) (v : Int × Int × Int) (hv : 0 ≤ v.1 ∧ v.1 ≤ n ∧ n ≤ 60 ∧ (list.length : Int) ≤ 1048576) (v' : Int × Int × Int) (hr : qaJ.rnd5 list n v.1 v.2.1 v.2.2 = Sum.inl v') : (0 ≤ v'.1 ∧ v'.1 ≤ n ∧ n ≤ 60 ∧ (list.length : Int) ≤ 1048576) ∧ (n - v'.1).toNat < (n - v.1).toNat := by
 exact dec_ibis hv hr
theorem qaJ.to5 : qaJ.L5.Ok Try.prog (tab (P := Try.prog) [qbE.e, qaR.e, qb0.e]) 1 53 0 qaJ.ls (lam [qaJ.L5]) (cOf Try.f13 0) := by
 intro R tm σ K r h
 simp only [qaJ.L5] at h
 split at h
 case h_2 => simp at h
 split at h
 case h_2 => simp at h
 rename_i n i list lo hi _ hc
 exact ⟨_, _, _, h, loop_to (x := 0) (rnd := (fun v : Int × Int × Int => qaJ.rnd5 list n v.1 v.2.1 v.2.2)) (env := fun v : Int × Int × Int => qaJ.env5 list n v) (heap := fun v : Int × Int × Int => qaJ.heap5 list n v) (Inv := (fun v : Int × Int × Int => 0 ≤ v.1 ∧ v.1 ≤ n ∧ n ≤ 60 ∧ (list.length : Int) ≤ 1048576)) (μ := (fun v : Int × Int × Int => (n - v.1).toNat)) (fun v hv k R K => (qaJ.step5 list n v.1 v.2.1 v.2.2 k R K).trans (qaJ.lt5_eq list n v.1 v.2.1 v.2.2 hv (sumK (fun v => qeT Try.prog 1 qaJ.ls k (exec Try.prog (tab (P := Try.prog) [qbE.e, qaR.e, qb0.e]) 1 53 0 qaJ.ls (lam [qaJ.L5]) (cOf Try.f13 0)) (qaJ.env5 list n v) (qaJ.heap5 list n v) K) (fun v => K (.exit 0) (qaJ.env5 list n v) (qaJ.heap5 list n v))))) (fun v hv v' hr => qaJ.dec5 list n v hv v' hr) 62 (i, lo, hi) (by have := of_decide_eq_true hc; first | exact this | (simp only []; exact this)) (by have := of_decide_eq_true hc; first | omega | (simp only []; omega))⟩
theorem qaJ.lok : ∀ c, Try.f13.body = some c → qh8 Try.prog (tab (P := Try.prog) [qbE.e, qaR.e, qb0.e]) 1 Try.f13.ntmps 0 qaJ.ls (lam [qaJ.L5]) (qc8 c) := by
 intro c hc
 have hb : qc8 c = [(cOf Try.f13 0)] := by
  have h : qc8 (Try.f13.body.getD .skip) = [(cOf Try.f13 0)] := by kernel_rfl
  rw [hc] at h
  exact h
 exact lam_ok1 hb qaJ.to5
def qaJ.t {ρ : Type} (list : List Value) (x : Iv) (steps : Int) (K : (Iv × Int) → Option ρ) : Option ρ := bif decide ((list.length : Int) ≤ 1048576) then (let t1 := (qbE list x steps); bif (t1 != 0) then (K ((Iv.mk 0 0), t1)) else (bif decide (0 ≤ (0 : Int) ∧ (0 : Int) ≤ steps ∧ steps ≤ 60 ∧ (list.length : Int) ≤ 1048576) then (let t2 := (qaJ.fin5 list steps (0, x.lo, x.hi)); K ((Iv.mk t2.2.1 t2.2.2), 0)) else none)) else none
theorem qaJ.t_eq {ρ : Type} (list : List Value) (x : Iv) (steps : Int) (hpre : (decide ((list.length : Int) ≤ 1048576)) = true) (K : (Iv × Int) → Option ρ) : qaJ.t list x steps K = K (qaJ list x steps) := cqT (by first | exact hpre | exact pd_ib hpre h1) (fun h0 => cq (fun h1 => rfl) (fun h1 => cqT (by first | exact hpre | exact pd_ib hpre h1) (fun h2 => rfl)))
theorem qaJ.gives (list : List Value) (x : Iv) (steps : Int) (hpre : (decide ((list.length : Int) ≤ 1048576)) = true) : qeO Try.prog 13 [(aL (.agg #[.int .i64 0, .int .i64 0]) 31).enc list, (aV cIv).enc x, (aV (cInt .i64)).enc steps] ((cT2 cIv (cInt .i64)).enc (qaJ list x steps)) :=
 qfH hmix [qbE.e, qaR.e, qb0.e] 0 qaJ.ls (lam [qaJ.L5]) Try.func13 rfl qaJ.lok (Eq.trans (by kernel_rfl) (qaJ.t_eq list x steps hpre fun r => some ((cT2 cIv (cInt .i64)).enc r, qaU [(aL (.agg #[.int .i64 0, .int .i64 0]) 31).enc list, (aV cIv).enc x, (aV (cInt .i64)).enc steps])))
def qd9.t {ρ : Type} (a : Iv) (n : Int) (K : Bool → Option ρ) : Option ρ := bif (qaO a) then (K true) else (K (qbI n a.lo a.hi))
theorem qd9.t_eq {ρ : Type} (a : Iv) (n : Int) (K : Bool → Option ρ) : qd9.t a n K = K (qd9 a n) := cq (fun h0 => rfl) (fun h0 => rfl)
theorem qd9.gives (a : Iv) (n : Int) : qc7 Try.prog 59 [cIv.enc a, (cInt .i64).enc n] (qc3.enc (qd9 a n)) :=
 qdD hmix [qaO.e, qbI.e] 0 none Try.func59 rfl rfl (Eq.trans (by kernel_rfl) (qd9.t_eq a n fun r => some (qc3.enc r, [])))
def qd9.e : qdU Try.prog := qf3 cIv (cInt .i64) qc3 59 qd9 qd9.gives
theorem bits_Len64.gives (x : Int) (hpre : (decide (0 ≤ x ∧ x < 18446744073709551616)) = true) : qc7 Try.prog 127 [(cInt .u64).enc x] ((cInt .i64).enc (bits_Len64 x)) := by
 simp only [decide_eq_true_eq] at hpre
 exact givesC Try.func127 rfl (by kernel_rfl) rfl rfl (fun w => Go.Proofs.Try.bits_Len64 x w (by omega) (by omega))
def bits_Len64.e : qdU Try.prog := entry1P (cInt .u64) (cInt .i64) 127 bits_Len64 (fun x => decide (0 ≤ x ∧ x < 18446744073709551616)) bits_Len64.gives
def qaW.t {ρ : Type} (x : Int) (K : Int → Option ρ) : Option ρ := bif decide (0 ≤ x ∧ x < 18446744073709551616) then (K (w64 (64 - (bits_Len64 x)))) else none
theorem qaW.t_eq {ρ : Type} (x : Int) (hpre : (decide (0 ≤ x ∧ x < 18446744073709551616)) = true) (K : Int → Option ρ) : qaW.t x K = K (qaW x) := cqT (by first | exact qd6 _ | (simp only [decide_eq_true_eq, decide_eq_false_iff_not] at *; omega) | (simp only [Bool.not_eq_eq_eq_not, Bool.not_false, qfB, qdS, decide_eq_true_eq, decide_eq_false_iff_not, qdI, qcE] at *; omega)) (fun h0 => rfl)
theorem qaW.gives (x : Int) (hpre : (decide (0 ≤ x ∧ x < 18446744073709551616)) = true) : qc7 Try.prog 126 [(cInt .u64).enc x] ((cInt .i64).enc (qaW x)) :=
 qdD hmix [bits_Len64.e] 0 none Try.func126 rfl rfl (Eq.trans (by kernel_rfl) (qaW.t_eq x hpre fun r => some ((cInt .i64).enc r, [])))
def qaW.e : qdU Try.prog := entry1P (cInt .u64) (cInt .i64) 126 qaW (fun x => decide (0 ≤ x ∧ x < 18446744073709551616)) qaW.gives
def qaK.ls : Option (List Nat) := some [2, 8, 9, 10, 11, 13, 14, 15, 16, 17, 18]
def qaK.env17 (y_ : Int) (s_ : Int) (yn1 : Int) (yn0 : Int) (un32 : Int) (un1 : Int) (un0 : Int) (v : Int × Int) : Env := [(2, .int .u64 y_), (8, .int .u64 s_), (9, .int .u64 yn1), (10, .int .u64 yn0), (11, .int .u64 un32), (13, .int .u64 un1), (14, .int .u64 un0), (15, .int .u64 v.1), (16, .int .u64 v.2)]
def qaK.heap17 (y_ : Int) (s_ : Int) (yn1 : Int) (yn0 : Int) (un32 : Int) (un1 : Int) (un0 : Int) (v : Int × Int) : LH := []
def qaK.L17 : LEntry := ⟨17, fun _ tm σ K => match tm, σ with
 | [(2, .int .u64 y_), (8, .int .u64 s_), (9, .int .u64 yn1), (10, .int .u64 yn0), (11, .int .u64 un32), (13, .int .u64 un1), (14, .int .u64 un0), (15, .int .u64 q1), (16, .int .u64 rhat)], [] => (match decide (2147483648 ≤ yn1 ∧ yn1 < 4294967296 ∧ 0 ≤ rhat ∧ rhat < 4294967296) with | true => K (.exit 0) (qaK.env17 y_ s_ yn1 yn0 un32 un1 un0 (qaK.fin17 y_ s_ yn1 yn0 un32 un1 un0 (q1, rhat))) (qaK.heap17 y_ s_ yn1 yn0 un32 un1 un0 (qaK.fin17 y_ s_ yn1 yn0 un32 un1 un0 (q1, rhat))) | false => none)
 | _, _ => none⟩
def qaK.env24 (y_ : Int) (s_ : Int) (yn1 : Int) (yn0 : Int) (un32 : Int) (un1 : Int) (un0 : Int) (q1 : Int) (un21 : Int) (v : Int × Int) : Env := [(2, .int .u64 y_), (8, .int .u64 s_), (9, .int .u64 yn1), (10, .int .u64 yn0), (11, .int .u64 un32), (13, .int .u64 un1), (14, .int .u64 un0), (15, .int .u64 q1), (16, .int .u64 v.1), (17, .int .u64 un21), (18, .int .u64 v.2)]
def qaK.heap24 (y_ : Int) (s_ : Int) (yn1 : Int) (yn0 : Int) (un32 : Int) (un1 : Int) (un0 : Int) (q1 : Int) (un21 : Int) (v : Int × Int) : LH := []
def qaK.L24 : LEntry := ⟨24, fun _ tm σ K => match tm, σ with
 | [(2, .int .u64 y_), (8, .int .u64 s_), (9, .int .u64 yn1), (10, .int .u64 yn0), (11, .int .u64 un32), (13, .int .u64 un1), (14, .int .u64 un0), (15, .int .u64 q1), (16, .int .u64 rhat), (17, .int .u64 un21), (18, .int .u64 q0)], [] => (match decide (2147483648 ≤ yn1 ∧ yn1 < 4294967296 ∧ 0 ≤ rhat ∧ rhat < 4294967296) with | true => K (.exit 2) (qaK.env24 y_ s_ yn1 yn0 un32 un1 un0 q1 un21 (qaK.fin24 y_ s_ yn1 yn0 un32 un1 un0 q1 un21 (rhat, q0))) (qaK.heap24 y_ s_ yn1 yn0 un32 un1 un0 q1 un21 (qaK.fin24 y_ s_ yn1 yn0 un32 un1 un0 q1 un21 (rhat, q0))) | false => none)
 | _, _ => none⟩
def qaK.lt17 {ρ : Type} (y_ : Int) (s_ : Int) (yn1 : Int) (yn0 : Int) (un32 : Int) (un1 : Int) (un0 : Int) (q1 : Int) (rhat : Int) (K : Sum (Int × Int) (Int × Int) → Option ρ) : Option ρ := bif decide (q1 ≥ 4294967296) then (bif decide ((u64 (rhat + yn1)) ≥ 4294967296) then (K (Sum.inr ((u64 (q1 - 1)), (u64 (rhat + yn1))))) else (K (Sum.inl ((u64 (q1 - 1)), (u64 (rhat + yn1)))))) else (bif decide ((u64 (q1 * yn0)) > (u64 ((u64 (4294967296 * rhat)) + un1))) then (bif decide ((u64 (rhat + yn1)) ≥ 4294967296) then (K (Sum.inr ((u64 (q1 - 1)), (u64 (rhat + yn1))))) else (K (Sum.inl ((u64 (q1 - 1)), (u64 (rhat + yn1)))))) else (K (Sum.inr (q1, rhat))))
theorem qaK.lt17_eq {ρ : Type} (y_ : Int) (s_ : Int) (yn1 : Int) (yn0 : Int) (un32 : Int) (un1 : Int) (un0 : Int) (q1 : Int) (rhat : Int) (hpre : 2147483648 ≤ yn1 ∧ yn1 < 4294967296 ∧ 0 ≤ rhat ∧ rhat < 4294967296) (K : Sum (Int × Int) (Int × Int) → Option ρ) : qaK.lt17 y_ s_ yn1 yn0 un32 un1 un0 q1 rhat K = K (qaK.rnd17 y_ s_ yn1 yn0 un32 un1 un0 q1 rhat) := cq (fun h0 => cq (fun h1 => rfl) (fun h1 => rfl)) (fun h0 => cq (fun h1 => cq (fun h2 => rfl) (fun h2 => rfl)) (fun h1 => rfl))
theorem qaK.step17 (y_ : Int) (s_ : Int) (yn1 : Int) (yn0 : Int) (un32 : Int) (un1 : Int) (un0 : Int) (q1 : Int) (rhat : Int) (k : Nat) (R : Type) (K : LX → Env → LH → Option R) : qeT Try.prog 0 qaK.ls (k + 1) (exec Try.prog (tab (P := Try.prog) [qaW.e]) 0 135 0 qaK.ls (lam [qaK.L17, qaK.L24]) (cOf Try.f118 0)) (qaK.env17 y_ s_ yn1 yn0 un32 un1 un0 (q1, rhat)) (qaK.heap17 y_ s_ yn1 yn0 un32 un1 un0 (q1, rhat)) K = qaK.lt17 y_ s_ yn1 yn0 un32 un1 un0 q1 rhat (sumK (fun v => qeT Try.prog 0 qaK.ls k (exec Try.prog (tab (P := Try.prog) [qaW.e]) 0 135 0 qaK.ls (lam [qaK.L17, qaK.L24]) (cOf Try.f118 0)) (qaK.env17 y_ s_ yn1 yn0 un32 un1 un0 v) (qaK.heap17 y_ s_ yn1 yn0 un32 un1 un0 v) K) (fun v => K (.exit 0) (qaK.env17 y_ s_ yn1 yn0 un32 un1 un0 v) (qaK.heap17 y_ s_ yn1 yn0 un32 un1 un0 v))) := by kernel_rfl
theorem qaK.dec17 (y_ : Int) (s_ : Int) (yn1 : Int) (yn0 : Int) (un32 : Int) (un1 : Int) (un0 : Int) (v : Int × Int) (hv : 2147483648 ≤ yn1 ∧ yn1 < 4294967296 ∧ 0 ≤ v.2 ∧ v.2 < 4294967296) (v' : Int × Int) (hr : qaK.rnd17 y_ s_ yn1 yn0 un32 un1 un0 v.1 v.2 = Sum.inl v') : (2147483648 ≤ yn1 ∧ yn1 < 4294967296 ∧ 0 ≤ v'.2 ∧ v'.2 < 4294967296) ∧ (if v'.2 < 2147483648 then 1 else 0) < (if v.2 < 2147483648 then 1 else 0) := by
 simp only [qaK.rnd17, Bool.cond_eq_ite, decide_eq_true_eq] at hr
 have e : u64 (v.2 + yn1) = v.2 + yn1 := qdP (by omega) (by omega)
 simp only [e] at hr
 (repeat' split at hr) <;> cases hr <;> (simp only []; split <;> split <;> omega)
theorem qaK.to17 : qaK.L17.Ok Try.prog (tab (P := Try.prog) [qaW.e]) 0 135 0 qaK.ls (lam [qaK.L17, qaK.L24]) (cOf Try.f118 0) := by
 intro R tm σ K r h
 simp only [qaK.L17] at h
 split at h
 case h_2 => simp at h
 split at h
 case h_2 => simp at h
 rename_i y_ s_ yn1 yn0 un32 un1 un0 q1 rhat _ hc
 exact ⟨_, _, _, h, loop_to (x := 0) (rnd := (fun v : Int × Int => qaK.rnd17 y_ s_ yn1 yn0 un32 un1 un0 v.1 v.2)) (env := fun v : Int × Int => qaK.env17 y_ s_ yn1 yn0 un32 un1 un0 v) (heap := fun v : Int × Int => qaK.heap17 y_ s_ yn1 yn0 un32 un1 un0 v) (Inv := (fun v : Int × Int => 2147483648 ≤ yn1 ∧ yn1 < 4294967296 ∧ 0 ≤ v.2 ∧ v.2 < 4294967296)) (μ := (fun v : Int × Int => (if v.2 < 2147483648 then 1 else 0))) (fun v hv k R K => (qaK.step17 y_ s_ yn1 yn0 un32 un1 un0 v.1 v.2 k R K).trans (qaK.lt17_eq y_ s_ yn1 yn0 un32 un1 un0 v.1 v.2 hv (sumK (fun v => qeT Try.prog 0 qaK.ls k (exec Try.prog (tab (P := Try.prog) [qaW.e]) 0 135 0 qaK.ls (lam [qaK.L17, qaK.L24]) (cOf Try.f118 0)) (qaK.env17 y_ s_ yn1 yn0 un32 un1 un0 v) (qaK.heap17 y_ s_ yn1 yn0 un32 un1 un0 v) K) (fun v => K (.exit 0) (qaK.env17 y_ s_ yn1 yn0 un32 un1 un0 v) (qaK.heap17 y_ s_ yn1 yn0 un32 un1 un0 v))))) (fun v hv v' hr => qaK.dec17 y_ s_ yn1 yn0 un32 un1 un0 v hv v' hr) 2 (q1, rhat) (by have := of_decide_eq_true hc; simp only []; omega) (by simp only []; split <;> omega)⟩
def qaK.lt24 {ρ : Type} (y_ : Int) (s_ : Int) (yn1 : Int) (yn0 : Int) (un32 : Int) (un1 : Int) (un0 : Int) (q1 : Int) (un21 : Int) (rhat : Int) (q0 : Int) (K : Sum (Int × Int) (Int × Int) → Option ρ) : Option ρ := bif decide (q0 ≥ 4294967296) then (bif decide ((u64 (rhat + yn1)) ≥ 4294967296) then (K (Sum.inr ((u64 (rhat + yn1)), (u64 (q0 - 1))))) else (K (Sum.inl ((u64 (rhat + yn1)), (u64 (q0 - 1)))))) else (bif decide ((u64 (q0 * yn0)) > (u64 ((u64 (4294967296 * rhat)) + un0))) then (bif decide ((u64 (rhat + yn1)) ≥ 4294967296) then (K (Sum.inr ((u64 (rhat + yn1)), (u64 (q0 - 1))))) else (K (Sum.inl ((u64 (rhat + yn1)), (u64 (q0 - 1)))))) else (K (Sum.inr (rhat, q0))))
theorem qaK.lt24_eq {ρ : Type} (y_ : Int) (s_ : Int) (yn1 : Int) (yn0 : Int) (un32 : Int) (un1 : Int) (un0 : Int) (q1 : Int) (un21 : Int) (rhat : Int) (q0 : Int) (hpre : 2147483648 ≤ yn1 ∧ yn1 < 4294967296 ∧ 0 ≤ rhat ∧ rhat < 4294967296) (K : Sum (Int × Int) (Int × Int) → Option ρ) : qaK.lt24 y_ s_ yn1 yn0 un32 un1 un0 q1 un21 rhat q0 K = K (qaK.rnd24 y_ s_ yn1 yn0 un32 un1 un0 q1 un21 rhat q0) := cq (fun h0 => cq (fun h1 => rfl) (fun h1 => rfl)) (fun h0 => cq (fun h1 => cq (fun h2 => rfl) (fun h2 => rfl)) (fun h1 => rfl))
theorem qaK.step24 (y_ : Int) (s_ : Int) (yn1 : Int) (yn0 : Int) (un32 : Int) (un1 : Int) (un0 : Int) (q1 : Int) (un21 : Int) (rhat : Int) (q0 : Int) (k : Nat) (R : Type) (K : LX → Env → LH → Option R) : qeT Try.prog 0 qaK.ls (k + 1) (exec Try.prog (tab (P := Try.prog) [qaW.e]) 0 135 0 qaK.ls (lam [qaK.L17, qaK.L24]) (cOf Try.f118 1)) (qaK.env24 y_ s_ yn1 yn0 un32 un1 un0 q1 un21 (rhat, q0)) (qaK.heap24 y_ s_ yn1 yn0 un32 un1 un0 q1 un21 (rhat, q0)) K = qaK.lt24 y_ s_ yn1 yn0 un32 un1 un0 q1 un21 rhat q0 (sumK (fun v => qeT Try.prog 0 qaK.ls k (exec Try.prog (tab (P := Try.prog) [qaW.e]) 0 135 0 qaK.ls (lam [qaK.L17, qaK.L24]) (cOf Try.f118 1)) (qaK.env24 y_ s_ yn1 yn0 un32 un1 un0 q1 un21 v) (qaK.heap24 y_ s_ yn1 yn0 un32 un1 un0 q1 un21 v) K) (fun v => K (.exit 2) (qaK.env24 y_ s_ yn1 yn0 un32 un1 un0 q1 un21 v) (qaK.heap24 y_ s_ yn1 yn0 un32 un1 un0 q1 un21 v))) := by kernel_rfl
theorem qaK.dec24 (y_ : Int) (s_ : Int) (yn1 : Int) (yn0 : Int) (un32 : Int) (un1 : Int) (un0 : Int) (q1 : Int) (un21 : Int) (v : Int × Int) (hv : 2147483648 ≤ yn1 ∧ yn1 < 4294967296 ∧ 0 ≤ v.1 ∧ v.1 < 4294967296) (v' : Int × Int) (hr : qaK.rnd24 y_ s_ yn1 yn0 un32 un1 un0 q1 un21 v.1 v.2 = Sum.inl v') : (2147483648 ≤ yn1 ∧ yn1 < 4294967296 ∧ 0 ≤ v'.1 ∧ v'.1 < 4294967296) ∧ (if v'.1 < 2147483648 then 1 else 0) < (if v.1 < 2147483648 then 1 else 0) := by
 simp only [qaK.rnd24, Bool.cond_eq_ite, decide_eq_true_eq] at hr
 have e : u64 (v.1 + yn1) = v.1 + yn1 := qdP (by omega) (by omega)
 simp only [e] at hr
 (repeat' split at hr) <;> cases hr <;> (simp only []; split <;> split <;> omega)
theorem qaK.to24 : qaK.L24.Ok Try.prog (tab (P := Try.prog) [qaW.e]) 0 135 0 qaK.ls (lam [qaK.L17, qaK.L24]) (cOf Try.f118 1) := by
 intro R tm σ K r h
 simp only [qaK.L24] at h
 split at h
 case h_2 => simp at h
 split at h
 case h_2 => simp at h
 rename_i y_ s_ yn1 yn0 un32 un1 un0 q1 rhat un21 q0 _ hc
 exact ⟨_, _, _, h, loop_to (x := 2) (rnd := (fun v : Int × Int => qaK.rnd24 y_ s_ yn1 yn0 un32 un1 un0 q1 un21 v.1 v.2)) (env := fun v : Int × Int => qaK.env24 y_ s_ yn1 yn0 un32 un1 un0 q1 un21 v) (heap := fun v : Int × Int => qaK.heap24 y_ s_ yn1 yn0 un32 un1 un0 q1 un21 v) (Inv := (fun v : Int × Int => 2147483648 ≤ yn1 ∧ yn1 < 4294967296 ∧ 0 ≤ v.1 ∧ v.1 < 4294967296)) (μ := (fun v : Int × Int => (if v.1 < 2147483648 then 1 else 0))) (fun v hv k R K => (qaK.step24 y_ s_ yn1 yn0 un32 un1 un0 q1 un21 v.1 v.2 k R K).trans (qaK.lt24_eq y_ s_ yn1 yn0 un32 un1 un0 q1 un21 v.1 v.2 hv (sumK (fun v => qeT Try.prog 0 qaK.ls k (exec Try.prog (tab (P := Try.prog) [qaW.e]) 0 135 0 qaK.ls (lam [qaK.L17, qaK.L24]) (cOf Try.f118 1)) (qaK.env24 y_ s_ yn1 yn0 un32 un1 un0 q1 un21 v) (qaK.heap24 y_ s_ yn1 yn0 un32 un1 un0 q1 un21 v) K) (fun v => K (.exit 2) (qaK.env24 y_ s_ yn1 yn0 un32 un1 un0 q1 un21 v) (qaK.heap24 y_ s_ yn1 yn0 un32 un1 un0 q1 un21 v))))) (fun v hv v' hr => qaK.dec24 y_ s_ yn1 yn0 un32 un1 un0 q1 un21 v hv v' hr) 2 (rhat, q0) (by have := of_decide_eq_true hc; simp only []; omega) (by simp only []; split <;> omega)⟩
theorem qaK.lok : ∀ c, Try.f118.body = some c → qh8 Try.prog (tab (P := Try.prog) [qaW.e]) 0 Try.f118.ntmps 0 qaK.ls (lam [qaK.L17, qaK.L24]) (qc8 c) := by
 intro c hc
 have hb : qc8 c = [(cOf Try.f118 0), (cOf Try.f118 1)] := by
  have h : qc8 (Try.f118.body.getD .skip) = [(cOf Try.f118 0), (cOf Try.f118 1)] := by kernel_rfl
  rw [hc] at h
  exact h
 exact lam_ok2 hb (by kernel_rfl) (by kernel_rfl) qaK.to17 qaK.to24
def qaK.t {ρ : Type} (d : Int) (i : Int) (a2 : Int) (K : (Int × Int) → Option ρ) : Option ρ := bif (a2 == 0) then none else (bif decide (a2 ≤ d) then none else (bif (d == 0) then (bif decide (a2 = 0) then none else (bif decide (a2 = 0) then none else (K ((u64 (Int.tdiv i a2)), (Int.tmod i a2))))) else (bif decide (0 ≤ a2 ∧ a2 < 18446744073709551616) then (let t1 := (qaW a2); bif decide ((u64 t1) < 0) then none else (let x2 := (Int.fdiv (u64 (a2 * (2 ^ (min (Int.toNat (u64 t1)) 64)))) 4294967296); let x3 := (andI .u64 (u64 (a2 * (2 ^ (min (Int.toNat (u64 t1)) 64)))) 4294967295); bif decide ((u64 t1) < 0) then none else (bif decide ((u64 (64 - (u64 t1))) < 0) then none else (let x5 := (orI .u64 (u64 (d * (2 ^ (min (Int.toNat (u64 t1)) 64)))) (Int.fdiv i (2 ^ (min (Int.toNat (u64 (64 - (u64 t1)))) 64)))); bif decide ((u64 t1) < 0) then none else (let x6 := (Int.fdiv (u64 (i * (2 ^ (min (Int.toNat (u64 t1)) 64)))) 4294967296); let x7 := (andI .u64 (u64 (i * (2 ^ (min (Int.toNat (u64 t1)) 64)))) 4294967295); bif decide (x2 = 0) then none else (bif decide (2147483648 ≤ x2 ∧ x2 < 4294967296 ∧ 0 ≤ (u64 (x5 - (u64 ((u64 (Int.tdiv x5 x2)) * x2)))) ∧ (u64 (x5 - (u64 ((u64 (Int.tdiv x5 x2)) * x2)))) < 4294967296) then (let t8 := (qaK.fin17 ((u64 (a2 * (2 ^ (min (Int.toNat (u64 t1)) 64))))) ((u64 t1)) x2 x3 x5 x6 x7 ((u64 (Int.tdiv x5 x2)), (u64 (x5 - (u64 ((u64 (Int.tdiv x5 x2)) * x2)))))); let x9 := (u64 (t8.1 * (u64 (a2 * (2 ^ (min (Int.toNat (u64 t1)) 64)))))); bif decide (x2 = 0) then none else (let x10 := (u64 (Int.tdiv (u64 ((u64 ((u64 (x5 * 4294967296)) + x6)) - x9)) x2)); let x11 := (u64 ((u64 ((u64 ((u64 (x5 * 4294967296)) + x6)) - x9)) - (u64 (x10 * x2)))); bif decide (2147483648 ≤ x2 ∧ x2 < 4294967296 ∧ 0 ≤ x11 ∧ x11 < 4294967296) then (let t12 := (qaK.fin24 ((u64 (a2 * (2 ^ (min (Int.toNat (u64 t1)) 64))))) ((u64 t1)) x2 x3 x5 x6 x7 t8.1 ((u64 ((u64 ((u64 (x5 * 4294967296)) + x6)) - x9))) (x11, x10)); bif decide ((u64 t1) < 0) then none else (K ((u64 ((u64 (t8.1 * 4294967296)) + t12.2)), (Int.fdiv (u64 ((u64 ((u64 ((u64 ((u64 ((u64 (x5 * 4294967296)) + x6)) - x9)) * 4294967296)) + x7)) - (u64 (t12.2 * (u64 (a2 * (2 ^ (min (Int.toNat (u64 t1)) 64)))))))) (2 ^ (min (Int.toNat (u64 t1)) 64)))))) else none)) else none)))))) else none)))
theorem qaK.t_eq {ρ : Type} (d : Int) (i : Int) (a2 : Int) (hpre : (decide (0 ≤ d ∧ d < a2 ∧ a2 < 18446744073709551616 ∧ 0 ≤ i ∧ i < 18446744073709551616)) = true) (K : (Int × Int) → Option ρ) : qaK.t d i a2 K = K (qaK d i a2) := cqF (by first | exact qd6 _ | exact qfT (qeI hpre) (qfQ _ _) | exact qfT (qeI hpre) (qeE _) | exact qeH hpre | (simp only [decide_eq_true_eq, decide_eq_false_iff_not, beq_eq_false_iff_ne, ne_eq] at *; omega)) (fun h0 => cqF (by first | exact qd6 _ | exact qfT (qeI hpre) (qfQ _ _) | exact qfT (qeI hpre) (qeE _) | exact qeH hpre | (simp only [decide_eq_true_eq, decide_eq_false_iff_not, beq_eq_false_iff_ne, ne_eq] at *; omega)) (fun h1 => cq (fun h2 => cqF (by first | exact qd6 _ | exact qfT (qeI hpre) (qfQ _ _) | exact qfT (qeI hpre) (qeE _) | exact qeH hpre | (simp only [decide_eq_true_eq, decide_eq_false_iff_not, beq_eq_false_iff_ne, ne_eq] at *; omega)) (fun h3 => cqF (by first | exact qd6 _ | exact qfT (qeI hpre) (qfQ _ _) | exact qfT (qeI hpre) (qeE _) | exact qeH hpre | (simp only [decide_eq_true_eq, decide_eq_false_iff_not, beq_eq_false_iff_ne, ne_eq] at *; omega)) (fun h4 => rfl))) (fun h2 => cqT (by first | exact qd6 _ | exact qfT (qeI hpre) (qfQ _ _) | exact qfT (qeI hpre) (qeE _) | exact qeH hpre | (simp only [decide_eq_true_eq, decide_eq_false_iff_not, beq_eq_false_iff_ne, ne_eq] at *; omega)) (fun h3 => cqF (by first | exact qd6 _ | exact qfT (qeI hpre) (qfQ _ _) | exact qfT (qeI hpre) (qeE _) | exact qeH hpre | (simp only [decide_eq_true_eq, decide_eq_false_iff_not, beq_eq_false_iff_ne, ne_eq] at *; omega)) (fun h4 => cqF (by first | exact qd6 _ | exact qfT (qeI hpre) (qfQ _ _) | exact qfT (qeI hpre) (qeE _) | exact qeH hpre | (simp only [decide_eq_true_eq, decide_eq_false_iff_not, beq_eq_false_iff_ne, ne_eq] at *; omega)) (fun h5 => cqF (by first | exact qd6 _ | exact qfT (qeI hpre) (qfQ _ _) | exact qfT (qeI hpre) (qeE _) | exact qeH hpre | (simp only [decide_eq_true_eq, decide_eq_false_iff_not, beq_eq_false_iff_ne, ne_eq] at *; omega)) (fun h6 => cqF (by first | exact qd6 _ | exact qfT (qeI hpre) (qfQ _ _) | exact qfT (qeI hpre) (qeE _) | exact qeH hpre | (simp only [decide_eq_true_eq, decide_eq_false_iff_not, beq_eq_false_iff_ne, ne_eq] at *; omega)) (fun h7 => cqF (by first | exact qd6 _ | exact qfT (qeI hpre) (qfQ _ _) | exact qfT (qeI hpre) (qeE _) | exact qeH hpre | (simp only [decide_eq_true_eq, decide_eq_false_iff_not, beq_eq_false_iff_ne, ne_eq] at *; omega)) (fun h8 => cqT (by first | exact qd6 _ | exact qfT (qeI hpre) (qfQ _ _) | exact qfT (qeI hpre) (qeE _) | exact qeH hpre | (simp only [decide_eq_true_eq, decide_eq_false_iff_not, beq_eq_false_iff_ne, ne_eq] at *; omega)) (fun h9 => cqF (by first | exact qd6 _ | exact qfT (qeI hpre) (qfQ _ _) | exact qfT (qeI hpre) (qeE _) | exact qeH hpre | (simp only [decide_eq_true_eq, decide_eq_false_iff_not, beq_eq_false_iff_ne, ne_eq] at *; omega)) (fun h10 => cqT (by first | exact qd6 _ | exact qfT (qeI hpre) (qfQ _ _) | exact qfT (qeI hpre) (qeE _) | exact qeH hpre | (simp only [decide_eq_true_eq, decide_eq_false_iff_not, beq_eq_false_iff_ne, ne_eq] at *; omega)) (fun h11 => cqF (by first | exact qd6 _ | exact qfT (qeI hpre) (qfQ _ _) | exact qfT (qeI hpre) (qeE _) | exact qeH hpre | (simp only [decide_eq_true_eq, decide_eq_false_iff_not, beq_eq_false_iff_ne, ne_eq] at *; omega)) (fun h12 => rfl)))))))))))))
theorem qaK.gives (d : Int) (i : Int) (a2 : Int) (hpre : (decide (0 ≤ d ∧ d < a2 ∧ a2 < 18446744073709551616 ∧ 0 ≤ i ∧ i < 18446744073709551616)) = true) : qc7 Try.prog 118 [(cInt .u64).enc d, (cInt .u64).enc i, (cInt .u64).enc a2] ((cT2 (cInt .u64) (cInt .u64)).enc (qaK d i a2)) :=
 givesL hmix [qaW.e] 0 qaK.ls (lam [qaK.L17, qaK.L24]) Try.func118 rfl rfl qaK.lok (Eq.trans (by kernel_rfl) (qaK.t_eq d i a2 hpre fun r => some ((cT2 (cInt .u64) (cInt .u64)).enc r, [])))
def qaK.e : qdU Try.prog := entry3P (cInt .u64) (cInt .u64) (cInt .u64) (cT2 (cInt .u64) (cInt .u64)) 118 qaK (fun d i a2 => decide (0 ≤ d ∧ d < a2 ∧ a2 < 18446744073709551616 ∧ 0 ≤ i ∧ i < 18446744073709551616)) qaK.gives
def qcS.t {ρ : Type} (hi_0 : Int) (lo_1 : Int) (d : Int) (K : (Int × Int × Int) → Option ρ) : Option ρ := bif decide (d = 0) then none else (bif decide (d = 0) then none else (bif decide (0 ≤ (Int.tmod hi_0 d) ∧ (Int.tmod hi_0 d) < d ∧ d < 18446744073709551616 ∧ 0 ≤ lo_1 ∧ lo_1 < 18446744073709551616) then (let t1 := (qaK (Int.tmod hi_0 d) lo_1 d); K ((u64 (Int.tdiv hi_0 d)), t1.1, t1.2)) else none))
theorem qcS.t_eq {ρ : Type} (hi_0 : Int) (lo_1 : Int) (d : Int) (hpre : (decide (0 ≤ hi_0 ∧ hi_0 < 18446744073709551616 ∧ 0 ≤ lo_1 ∧ lo_1 < 18446744073709551616 ∧ 0 < d ∧ d < 18446744073709551616)) = true) (K : (Int × Int × Int) → Option ρ) : qcS.t hi_0 lo_1 d K = K (qcS hi_0 lo_1 d) := cqF (by first | exact pd_divided hpre | (simp only [decide_eq_true_eq, decide_eq_false_iff_not] at *; omega)) (fun h0 => cqF (by first | exact pd_divided hpre | (simp only [decide_eq_true_eq, decide_eq_false_iff_not] at *; omega)) (fun h1 => cqT (by first | exact pd_divided hpre | (simp only [decide_eq_true_eq, decide_eq_false_iff_not] at *; omega)) (fun h2 => rfl)))
theorem qcS.gives (hi_0 : Int) (lo_1 : Int) (d : Int) (hpre : (decide (0 ≤ hi_0 ∧ hi_0 < 18446744073709551616 ∧ 0 ≤ lo_1 ∧ lo_1 < 18446744073709551616 ∧ 0 < d ∧ d < 18446744073709551616)) = true) : qc7 Try.prog 111 [(cInt .u64).enc hi_0, (cInt .u64).enc lo_1, (cInt .u64).enc d] ((cT3 (cInt .u64) (cInt .u64) (cInt .u64)).enc (qcS hi_0 lo_1 d)) :=
 qdD hmix [qaK.e] 0 none Try.func111 rfl rfl (Eq.trans (by kernel_rfl) (qcS.t_eq hi_0 lo_1 d hpre fun r => some ((cT3 (cInt .u64) (cInt .u64) (cInt .u64)).enc r, [])))
def qcS.e : qdU Try.prog := entry3P (cInt .u64) (cInt .u64) (cInt .u64) (cT3 (cInt .u64) (cInt .u64) (cInt .u64)) 111 qcS (fun hi_0 lo_1 d => decide (0 ≤ hi_0 ∧ hi_0 < 18446744073709551616 ∧ 0 ≤ lo_1 ∧ lo_1 < 18446744073709551616 ∧ 0 < d ∧ d < 18446744073709551616)) qcS.gives
def sub64E : Array Value → Sem Value := fun args => do
 let (x, y, b) ← Extern.MathBitsCarry.three "Sub64" args
 pure (Extern.MathBitsCarry.pair ((x + Extern.MathBitsCarry.m64 - y - b) % Extern.MathBitsCarry.m64) (if x < y + b then 1 else 0))
theorem qdN.ext (x y c : Int) (h : decide (0 ≤ c ∧ c ≤ 1) = true) (w : World) : (callFunc 119 #[.int .u64 x, .int .u64 y, .int .u64 c]).run Try.prog w = .ok (.value ((cT2 (cInt .u64) (cInt .u64)).enc (qdN x y c))) w := by
 have hc : c = 0 ∨ c = 1 := by simp only [decide_eq_true_eq] at h; omega
 rcases hc with rfl | rfl <;> (rw [run_callFunc_extern Try.func119 (by kernel_rfl) (by kernel_rfl) (by kernel_rfl) (e := sub64E) (by kernel_rfl)]; rfl)
def qdN.e : qdU Try.prog := entryX3 (cInt .u64) (cInt .u64) (cInt .u64) (cT2 (cInt .u64) (cInt .u64)) 119 qdN (fun x y c => decide (0 ≤ c ∧ c ≤ 1)) qdN.ext
def qa8.t {ρ : Type} (w : Wd) (K : Wd → Option ρ) : Option ρ := let t1 := (qdN 0 w.lo 0); bif decide (0 ≤ t1.2 ∧ t1.2 ≤ 1) then (K (Wd.mk (w64 (qdN 0 (u64 w.hi) t1.2).1) t1.1)) else none
theorem qa8.t_eq {ρ : Type} (w : Wd) (K : Wd → Option ρ) : qa8.t w K = K (qa8 w) := cqT (by exact sub64_borrow _ _ _) (fun h0 => rfl)
theorem qa8.gives (w : Wd) : qc7 Try.prog 112 [cWd.enc w] (cWd.enc (qa8 w)) :=
 qdD hmix [qdN.e] 0 none Try.func112 rfl rfl (Eq.trans (by kernel_rfl) (qa8.t_eq w fun r => some (cWd.enc r, [])))
def qa8.e : qdU Try.prog := qgW cWd cWd 112 qa8 qa8.gives
theorem qe2.ext (x y c : Int) (h : decide (0 ≤ c ∧ c ≤ 1) = true) (w : World) : (callFunc 113 #[.int .u64 x, .int .u64 y, .int .u64 c]).run Try.prog w = .ok (.value ((cT2 (cInt .u64) (cInt .u64)).enc (qe2 x y c))) w := by
 have hc : c = 0 ∨ c = 1 := by simp only [decide_eq_true_eq] at h; omega
 rcases hc with rfl | rfl <;> (rw [run_callFunc_extern Try.func113 (by kernel_rfl) (by kernel_rfl) (by kernel_rfl) (e := add64Entry) (by kernel_rfl)]; rfl)
def qe2.e : qdU Try.prog := entryX3 (cInt .u64) (cInt .u64) (cInt .u64) (cT2 (cInt .u64) (cInt .u64)) 113 qe2 (fun x y c => decide (0 ≤ c ∧ c ≤ 1)) qe2.ext
def qcU.t {ρ : Type} (d : Wd) (i : Int) (K : (Wd × Int × Bool) → Option ρ) : Option ρ := bif decide (i ≤ 0) then (K ((Wd.mk 0 0), 0, false)) else (bif decide (d.hi ≥ 0) then (bif decide (0 ≤ (u64 d.hi) ∧ (u64 d.hi) < 18446744073709551616 ∧ 0 ≤ d.lo ∧ d.lo < 18446744073709551616 ∧ 0 < (u64 i) ∧ (u64 i) < 18446744073709551616) then (let t1 := (qcS (u64 d.hi) d.lo (u64 i)); K ((Wd.mk (w64 t1.1) t1.2.1), (w64 t1.2.2), true)) else none) else (let t2 := (qa8 d); bif decide (0 ≤ (u64 t2.hi) ∧ (u64 t2.hi) < 18446744073709551616 ∧ 0 ≤ t2.lo ∧ t2.lo < 18446744073709551616 ∧ 0 < (u64 i) ∧ (u64 i) < 18446744073709551616) then (let t3 := (qcS (u64 t2.hi) t2.lo (u64 i)); bif (t3.2.2 == 0) then (K ((qa8 (Wd.mk (w64 t3.1) t3.2.1)), 0, true)) else (let t5 := (qe2 t3.2.1 1 0); K ((qa8 (Wd.mk (w64 (u64 (t3.1 + t5.2))) t5.1)), (w64 (i - (w64 t3.2.2))), true))) else none))
theorem qcU.t_eq {ρ : Type} (d : Wd) (i : Int) (hpre : (decide (0 ≤ d.lo ∧ d.lo < 18446744073709551616 ∧ i ≤ 9223372036854775807)) = true) (K : (Wd × Int × Bool) → Option ρ) : qcU.t d i K = K (qcU d i) := cq (fun h0 => rfl) (fun h0 => cq (fun h1 => cqT (by first | with_reducible exact pd_wd1 hpre h0 | with_reducible exact pd_wd2 hpre h0) (fun h2 => rfl)) (fun h1 => cqT (by first | with_reducible exact pd_wd1 hpre h0 | with_reducible exact pd_wd2 hpre h0) (fun h2 => cq (fun h3 => rfl) (fun h3 => rfl))))
theorem qcU.gives (d : Wd) (i : Int) (hpre : (decide (0 ≤ d.lo ∧ d.lo < 18446744073709551616 ∧ i ≤ 9223372036854775807)) = true) : qc7 Try.prog 104 [cWd.enc d, (cInt .i64).enc i] ((cT3 cWd (cInt .i64) qc3).enc (qcU d i)) :=
 qdD hmix [qcS.e, qa8.e, qe2.e] 0 none Try.func104 rfl rfl (Eq.trans (by kernel_rfl) (qcU.t_eq d i hpre fun r => some ((cT3 cWd (cInt .i64) qc3).enc r, [])))
def qcU.e : qdU Try.prog := entry2P cWd (cInt .i64) (cT3 cWd (cInt .i64) qc3) 104 qcU (fun d i => decide (0 ≤ d.lo ∧ d.lo < 18446744073709551616 ∧ i ≤ 9223372036854775807)) qcU.gives
def qb2.t {ρ : Type} (a : Int) (b : Int) (d : Int) (K : (Int × Bool) → Option ρ) : Option ρ := let t1 := (qcD a b); bif decide (0 ≤ t1.lo ∧ t1.lo < 18446744073709551616 ∧ d ≤ 9223372036854775807) then (let t2 := (qcU t1 d); bif (!t2.2.2) then (K (0, false)) else (let t3 := (qcT t2.1); K (t3.1, t3.2))) else none
theorem qb2.t_eq {ρ : Type} (a : Int) (b : Int) (d : Int) (hpre : (decide (d ≤ 9223372036854775807)) = true) (K : (Int × Bool) → Option ρ) : qb2.t a b d K = K (qb2 a b d) := cqT (by exact pd_mul hpre) (fun h0 => cq (fun h1 => rfl) (fun h1 => rfl))
theorem qb2.gives (a : Int) (b : Int) (d : Int) (hpre : (decide (d ≤ 9223372036854775807)) = true) : qc7 Try.prog 94 [(cInt .i64).enc a, (cInt .i64).enc b, (cInt .i64).enc d] ((cT2 (cInt .i64) qc3).enc (qb2 a b d)) :=
 qdD hmix [qcD.e, qcU.e, qcT.e] 0 none Try.func94 rfl rfl (Eq.trans (by kernel_rfl) (qb2.t_eq a b d hpre fun r => some ((cT2 (cInt .i64) qc3).enc r, [])))
def qb2.e : qdU Try.prog := entry3P (cInt .i64) (cInt .i64) (cInt .i64) (cT2 (cInt .i64) qc3) 94 qb2 (fun a b d => decide (d ≤ 9223372036854775807)) qb2.gives
def qb8.t {ρ : Type} (a : Int) (b : Int) (K : (Int × Bool) → Option ρ) : Option ρ := bif (!(qbF a)) then (K (0, false)) else (bif (!(qbF b)) then (K (0, false)) else (bif decide (b < 0) then (bif decide ((w64 (0 - b)) ≤ 9223372036854775807) then (let t3 := (qb2 (w64 (0 - a)) 4294967296 (w64 (0 - b))); let t4 := (qdC t3.1 t3.2); K (t4.1, t4.2)) else none) else (bif decide (b ≤ 9223372036854775807) then (let t5 := (qb2 a 4294967296 b); let t6 := (qdC t5.1 t5.2); K (t6.1, t6.2)) else none)))
theorem qb8.t_eq {ρ : Type} (a : Int) (b : Int) (K : (Int × Bool) → Option ρ) : qb8.t a b K = K (qb8 a b) := cq (fun h0 => rfl) (fun h0 => cq (fun h1 => rfl) (fun h1 => cq (fun h2 => cqT (by first | exact decide_eq_true (w64_le _) | exact pd_fix h1) (fun h3 => rfl)) (fun h2 => cqT (by first | exact decide_eq_true (w64_le _) | exact pd_fix h1) (fun h3 => rfl))))
theorem qb8.gives (a : Int) (b : Int) : qc7 Try.prog 80 [(cInt .i64).enc a, (cInt .i64).enc b] ((cT2 (cInt .i64) qc3).enc (qb8 a b)) :=
 qdD hmix [qbF.e, qb2.e, qdC.e] 0 none Try.func80 rfl rfl (Eq.trans (by kernel_rfl) (qb8.t_eq a b fun r => some ((cT2 (cInt .i64) qc3).enc r, [])))
def qb8.e : qdU Try.prog := qf3 (cInt .i64) (cInt .i64) (cT2 (cInt .i64) qc3) 80 qb8 qb8.gives
def qc6.t {ρ : Type} (a : Int) (b : Int) (K : (Int × Bool) → Option ρ) : Option ρ := bif (!(qbF a)) then (K (0, false)) else (bif (!(qbF b)) then (K (0, false)) else (let t3 := (qb8 (w64 (0 - a)) b); K ((w64 (0 - t3.1)), t3.2)))
theorem qc6.t_eq {ρ : Type} (a : Int) (b : Int) (K : (Int × Bool) → Option ρ) : qc6.t a b K = K (qc6 a b) := cq (fun h0 => rfl) (fun h0 => cq (fun h1 => rfl) (fun h1 => rfl))
theorem qc6.gives (a : Int) (b : Int) : qc7 Try.prog 81 [(cInt .i64).enc a, (cInt .i64).enc b] ((cT2 (cInt .i64) qc3).enc (qc6 a b)) :=
 qdD hmix [qbF.e, qb8.e] 0 none Try.func81 rfl rfl (Eq.trans (by kernel_rfl) (qc6.t_eq a b fun r => some ((cT2 (cInt .i64) qc3).enc r, [])))
def qc6.e : qdU Try.prog := qf3 (cInt .i64) (cInt .i64) (cT2 (cInt .i64) qc3) 81 qc6 qc6.gives
def qdM.t {ρ : Type} (a : Iv) (b : Iv) (K : Iv → Option ρ) : Option ρ := bif (!(qbX a b)) then (K qaS) else (bif (qd9 b 0) then (K qaS) else (let t5 := (qb8 a.lo b.lo); let t6 := (qc6 a.lo b.lo); bif (!t5.2) then (K qaS) else (bif (!t6.2) then (K qaS) else (let t9 := (qb8 a.lo b.hi); let t10 := (qc6 a.lo b.hi); bif (!t9.2) then (K qaS) else (bif (!t10.2) then (K qaS) else (let t13 := (qb8 a.hi b.lo); let t14 := (qc6 a.hi b.lo); bif (!t13.2) then (K qaS) else (bif (!t14.2) then (K qaS) else (let t17 := (qb8 a.hi b.hi); let t18 := (qc6 a.hi b.hi); bif (!t17.2) then (K qaS) else (bif (!t18.2) then (K qaS) else (K (qb6 (mnI (mnI (mnI (mnI t5.1 t5.1) t9.1) t13.1) t17.1) (mxI (mxI (mxI (mxI t6.1 t6.1) t10.1) t14.1) t18.1) true)))))))))))
theorem qdM.t_eq {ρ : Type} (a : Iv) (b : Iv) (K : Iv → Option ρ) : qdM.t a b K = K (qdM a b) := cq (fun h0 => rfl) (fun h0 => cq (fun h1 => rfl) (fun h1 => cq (fun h2 => rfl) (fun h2 => cq (fun h3 => rfl) (fun h3 => cq (fun h4 => rfl) (fun h4 => cq (fun h5 => rfl) (fun h5 => cq (fun h6 => rfl) (fun h6 => cq (fun h7 => rfl) (fun h7 => cq (fun h8 => rfl) (fun h8 => cq (fun h9 => rfl) (fun h9 => rfl))))))))))
theorem qdM.gives (a : Iv) (b : Iv) : qc7 Try.prog 49 [cIv.enc a, cIv.enc b] (cIv.enc (qdM a b)) :=
 qdD hmix [qbX.e, qaS.e, qd9.e, (inl hmix [qb8.e, qc6.e, qaS.e, qb6.e] 3 76 Try.f76 Try.func76 rfl)] 3 none Try.func49 rfl rfl (Eq.trans (by kernel_rfl) (qdM.t_eq a b fun r => some (cIv.enc r, [])))
def qdM.e : qdU Try.prog := qf3 cIv cIv cIv 49 qdM qdM.gives
def qdA.t {ρ : Type} (a : Iv) (b : Iv) (K : (Iv × Bool) → Option ρ) : Option ρ := bif (qaO a) then (bif (qaO b) then (K (qaS, true)) else (bif (qaO a) then (K (b, true)) else (bif (qaO b) then (K (a, true)) else (bif decide ((mxI a.lo b.lo) > (mnI a.hi b.hi)) then (K ((Iv.mk 0 0), false)) else (K ((Iv.mk (mxI a.lo b.lo) (mnI a.hi b.hi)), true)))))) else (bif (qaO a) then (K (b, true)) else (bif (qaO b) then (K (a, true)) else (bif decide ((mxI a.lo b.lo) > (mnI a.hi b.hi)) then (K ((Iv.mk 0 0), false)) else (K ((Iv.mk (mxI a.lo b.lo) (mnI a.hi b.hi)), true)))))
theorem qdA.t_eq {ρ : Type} (a : Iv) (b : Iv) (K : (Iv × Bool) → Option ρ) : qdA.t a b K = K (qdA a b) := cq (fun h0 => cq (fun h1 => rfl) (fun h1 => cq (fun h2 => rfl) (fun h2 => cq (fun h3 => rfl) (fun h3 => cq (fun h4 => rfl) (fun h4 => rfl))))) (fun h0 => cq (fun h1 => rfl) (fun h1 => cq (fun h2 => rfl) (fun h2 => cq (fun h3 => rfl) (fun h3 => rfl))))
theorem qdA.gives (a : Iv) (b : Iv) : qc7 Try.prog 47 [cIv.enc a, cIv.enc b] ((cT2 cIv qc3).enc (qdA a b)) :=
 qdD hmix [qaO.e, qaS.e] 0 none Try.func47 rfl rfl (Eq.trans (by kernel_rfl) (qdA.t_eq a b fun r => some ((cT2 cIv qc3).enc r, [])))
def qdA.e : qdU Try.prog := qf3 cIv cIv (cT2 cIv qc3) 47 qdA qdA.gives
def qaG.ls : Option (List Nat) := some [0, 4, 6, 9, 27, 28, 1000000]
def qaG.env6 (list : List Value) (slope : List Value) (n : Int) (v : Int × Int × Int) : Env := [(0, .slice (some ⟨0, 0, some 0⟩) 0 0), (4, .pointer (some ⟨1, 0, none⟩)), (6, .pointer (some ⟨2, 0, none⟩)), (9, .slice (some ⟨3, 0, some 0⟩) 0 0), (27, .int .i64 n), (28, .int .i64 v.1)]
def qaG.heap6 (list : List Value) (slope : List Value) (n : Int) (v : Int × Int × Int) : LH := [(lstC list false (.agg #[.int .i64 0, .int .i64 0]), 31), (#[.int .i64 v.2.1, .int .i64 v.2.2], 31), (#[.int .i64 0, .int .i64 0], 31), (lstC slope true (.agg #[.int .i64 0, .int .i64 0]), 31)]
def qaG.L6 : LEntry := ⟨6, fun _ tm σ K => match tm, σ with
 | [(0, .slice (some ⟨0, 0, some 0⟩) 0 0), (4, .pointer (some ⟨1, 0, none⟩)), (6, .pointer (some ⟨2, 0, none⟩)), (9, .slice (some ⟨3, 0, some 0⟩) 0 0), (27, .int .i64 n), (28, .int .i64 i)], [(⟨[.tuple ⟨list⟩, .bool false, .agg ⟨[.int .i64 0, .int .i64 0]⟩]⟩, 31), (⟨[.int .i64 lo, .int .i64 hi]⟩, 31), (⟨[.int .i64 0, .int .i64 0]⟩, 31), (⟨[.tuple ⟨slope⟩, .bool true, .agg ⟨[.int .i64 0, .int .i64 0]⟩]⟩, 31)] => (match decide (0 ≤ i ∧ i ≤ n ∧ n ≤ 60 ∧ (list.length : Int) ≤ 1048576 ∧ (slope.length : Int) ≤ 1048576) with | true => K (.exit 0) (qaG.env6 list slope n (qaG.fin6 list slope n (i, lo, hi))) (qaG.heap6 list slope n (qaG.fin6 list slope n (i, lo, hi))) | false => none)
 | _, _ => none⟩
def qaG.lt6 {ρ : Type} (list : List Value) (slope : List Value) (n : Int) (i : Int) (lo : Int) (hi : Int) (K : Sum (Int × Int × Int) (Int × Int × Int) → Option ρ) : Option ρ := bif decide (i < n) then (let t4 := (qbW (qaR (Iv.mk lo hi))); bif decide ((list.length : Int) ≤ 1048576) then (bif decide (((List.reverse slope).length : Int) ≤ 1048576) then (let t9 := (qdA (Iv.mk lo hi) (qcG t4 (qdM (qaH list t4) (qaH (List.reverse slope) (Iv.mk lo hi))))); bif (!t9.2) then (K (Sum.inr (i, lo, hi))) else (bif ((t9.1.lo == lo) && (t9.1.hi == hi)) then (K (Sum.inr (i, lo, hi))) else (K (Sum.inl ((w64 (i + 1)), t9.1.lo, t9.1.hi))))) else none) else none) else (K (Sum.inr (i, lo, hi)))
theorem qaG.lt6_eq {ρ : Type} (list : List Value) (slope : List Value) (n : Int) (i : Int) (lo : Int) (hi : Int) (hpre : 0 ≤ i ∧ i ≤ n ∧ n ≤ 60 ∧ (list.length : Int) ≤ 1048576 ∧ (slope.length : Int) ≤ 1048576) (K : Sum (Int × Int × Int) (Int × Int × Int) → Option ρ) : qaG.lt6 list slope n i lo hi K = K (qaG.rnd6 list slope n i lo hi) := cq (fun h0 => cqT (by first | exact decide_eq_true (by omega) | exact decide_eq_true (by simp only [List.length_reverse]; omega)) (fun h1 => cqT (by first | exact decide_eq_true (by omega) | exact decide_eq_true (by simp only [List.length_reverse]; omega)) (fun h2 => cq (fun h3 => rfl) (fun h3 => cq (fun h4 => rfl) (fun h4 => rfl))))) (fun h0 => rfl)
theorem qaG.step6 (list : List Value) (slope : List Value) (n : Int) (i : Int) (lo : Int) (hi : Int) (k : Nat) (R : Type) (K : LX → Env → LH → Option R) : qeT Try.prog 1 qaG.ls (k + 1) (exec Try.prog (tab (P := Try.prog) [qbE.e, qaB.e, qaR.e, qbW.e, qaH.e, qdM.e, qcG.e, qdA.e]) 1 57 0 qaG.ls (lam [qaG.L6]) (cOf Try.f14 0)) (qaG.env6 list slope n (i, lo, hi)) (qaG.heap6 list slope n (i, lo, hi)) K = qaG.lt6 list slope n i lo hi (sumK (fun v => qeT Try.prog 1 qaG.ls k (exec Try.prog (tab (P := Try.prog) [qbE.e, qaB.e, qaR.e, qbW.e, qaH.e, qdM.e, qcG.e, qdA.e]) 1 57 0 qaG.ls (lam [qaG.L6]) (cOf Try.f14 0)) (qaG.env6 list slope n v) (qaG.heap6 list slope n v) K) (fun v => K (.exit 0) (qaG.env6 list slope n v) (qaG.heap6 list slope n v))) := by kernel_rfl
theorem qaG.dec6 (list : List Value) (slope : List Value) (n : Int) (v : Int × Int × Int) (hv : 0 ≤ v.1 ∧ v.1 ≤ n ∧ n ≤ 60 ∧ (list.length : Int) ≤ 1048576 ∧ (slope.length : Int) ≤ 1048576) (v' : Int × Int × Int) (hr : qaG.rnd6 list slope n v.1 v.2.1 v.2.2 = Sum.inl v') : (0 ≤ v'.1 ∧ v'.1 ≤ n ∧ n ≤ 60 ∧ (list.length : Int) ≤ 1048576 ∧ (slope.length : Int) ≤ 1048576) ∧ (n - v'.1).toNat < (n - v.1).toNat := by
 exact dec_inew hv hr
theorem qaG.to6 : qaG.L6.Ok Try.prog (tab (P := Try.prog) [qbE.e, qaB.e, qaR.e, qbW.e, qaH.e, qdM.e, qcG.e, qdA.e]) 1 57 0 qaG.ls (lam [qaG.L6]) (cOf Try.f14 0) := by
 intro R tm σ K r h
 simp only [qaG.L6] at h
 split at h
 case h_2 => simp at h
 split at h
 case h_2 => simp at h
 rename_i n i list lo hi slope _ hc
 exact ⟨_, _, _, h, loop_to (x := 0) (rnd := (fun v : Int × Int × Int => qaG.rnd6 list slope n v.1 v.2.1 v.2.2)) (env := fun v : Int × Int × Int => qaG.env6 list slope n v) (heap := fun v : Int × Int × Int => qaG.heap6 list slope n v) (Inv := (fun v : Int × Int × Int => 0 ≤ v.1 ∧ v.1 ≤ n ∧ n ≤ 60 ∧ (list.length : Int) ≤ 1048576 ∧ (slope.length : Int) ≤ 1048576)) (μ := (fun v : Int × Int × Int => (n - v.1).toNat)) (fun v hv k R K => (qaG.step6 list slope n v.1 v.2.1 v.2.2 k R K).trans (qaG.lt6_eq list slope n v.1 v.2.1 v.2.2 hv (sumK (fun v => qeT Try.prog 1 qaG.ls k (exec Try.prog (tab (P := Try.prog) [qbE.e, qaB.e, qaR.e, qbW.e, qaH.e, qdM.e, qcG.e, qdA.e]) 1 57 0 qaG.ls (lam [qaG.L6]) (cOf Try.f14 0)) (qaG.env6 list slope n v) (qaG.heap6 list slope n v) K) (fun v => K (.exit 0) (qaG.env6 list slope n v) (qaG.heap6 list slope n v))))) (fun v hv v' hr => qaG.dec6 list slope n v hv v' hr) 62 (i, lo, hi) (by have := of_decide_eq_true hc; first | exact this | (simp only []; exact this)) (by have := of_decide_eq_true hc; first | omega | (simp only []; omega))⟩
theorem qaG.lok : ∀ c, Try.f14.body = some c → qh8 Try.prog (tab (P := Try.prog) [qbE.e, qaB.e, qaR.e, qbW.e, qaH.e, qdM.e, qcG.e, qdA.e]) 1 Try.f14.ntmps 0 qaG.ls (lam [qaG.L6]) (qc8 c) := by
 intro c hc
 have hb : qc8 c = [(cOf Try.f14 0)] := by
  have h : qc8 (Try.f14.body.getD .skip) = [(cOf Try.f14 0)] := by kernel_rfl
  rw [hc] at h
  exact h
 exact lam_ok1 hb qaG.to6
def qaG.t {ρ : Type} (list : List Value) (x : Iv) (steps : Int) (K : (Iv × Int) → Option ρ) : Option ρ := bif decide ((list.length : Int) ≤ 1048576) then (let t1 := (qbE list x steps); bif (t1 != 0) then (K ((Iv.mk 0 0), t1)) else (bif decide ((list.length : Int) ≤ 1048576) then (let t2 := (qaB list); bif decide (0 ≤ (0 : Int) ∧ (0 : Int) ≤ steps ∧ steps ≤ 60 ∧ (list.length : Int) ≤ 1048576 ∧ (t2.1.length : Int) ≤ 1048576) then (let t3 := (qaG.fin6 list t2.1 steps (0, x.lo, x.hi)); K ((Iv.mk t3.2.1 t3.2.2), 0)) else none) else none)) else none
theorem qaG.t_eq {ρ : Type} (list : List Value) (x : Iv) (steps : Int) (hpre : (decide ((list.length : Int) ≤ 1048576)) = true) (K : (Iv × Int) → Option ρ) : qaG.t list x steps K = K (qaG list x steps) := cqT (by first | exact hpre | exact pd_in hpre h1) (fun h0 => cq (fun h1 => rfl) (fun h1 => cqT (by first | exact hpre | exact pd_in hpre h1) (fun h2 => cqT (by first | exact hpre | exact pd_in hpre h1) (fun h3 => rfl))))
theorem qaG.gives (list : List Value) (x : Iv) (steps : Int) (hpre : (decide ((list.length : Int) ≤ 1048576)) = true) : qeO Try.prog 14 [(aL (.agg #[.int .i64 0, .int .i64 0]) 31).enc list, (aV cIv).enc x, (aV (cInt .i64)).enc steps] ((cT2 cIv (cInt .i64)).enc (qaG list x steps)) :=
 qfH hmix [qbE.e, qaB.e, qaR.e, qbW.e, qaH.e, qdM.e, qcG.e, qdA.e] 0 qaG.ls (lam [qaG.L6]) Try.func14 rfl qaG.lok (Eq.trans (by kernel_rfl) (qaG.t_eq list x steps hpre fun r => some ((cT2 cIv (cInt .i64)).enc r, qaU [(aL (.agg #[.int .i64 0, .int .i64 0]) 31).enc list, (aV cIv).enc x, (aV (cInt .i64)).enc steps])))
def qcN.t {ρ : Type} (a : Iv) (n : Int) (K : Bool → Option ρ) : Option ρ := K (qbT n a.lo a.hi)
theorem qcN.t_eq {ρ : Type} (a : Iv) (n : Int) (K : Bool → Option ρ) : qcN.t a n K = K (qcN a n) := rfl
theorem qcN.gives (a : Iv) (n : Int) : qc7 Try.prog 34 [cIv.enc a, (cInt .i64).enc n] (qc3.enc (qcN a n)) :=
 qdD hmix [qbT.e] 0 none Try.func34 rfl rfl (Eq.trans (by kernel_rfl) (qcN.t_eq a n fun r => some (qc3.enc r, [])))
def qcN.e : qdU Try.prog := qf3 cIv (cInt .i64) qc3 34 qcN qcN.gives
def qbN.t {ρ : Type} (a : Iv) (n : Int) (K : Bool → Option ρ) : Option ρ := bif (!(qaF a)) then (K true) else (K (qcN a n))
theorem qbN.t_eq {ρ : Type} (a : Iv) (n : Int) (K : Bool → Option ρ) : qbN.t a n K = K (qbN a n) := cq (fun h0 => rfl) (fun h0 => rfl)
theorem qbN.gives (a : Iv) (n : Int) : qc7 Try.prog 10 [cIv.enc a, (cInt .i64).enc n] (qc3.enc (qbN a n)) :=
 qdD hmix [qaF.e, qcN.e] 0 none Try.func10 rfl rfl (Eq.trans (by kernel_rfl) (qbN.t_eq a n fun r => some (qc3.enc r, [])))
def qbM.t {ρ : Type} (a : Iv) (b : Iv) (K : Bool → Option ρ) : Option ρ := bif (!(qaF b)) then (K true) else (bif (qaF a) then (bif decide (b.lo ≤ a.lo) then (K (decide (a.hi ≤ b.hi))) else (K false)) else (K false))
theorem qbM.t_eq {ρ : Type} (a : Iv) (b : Iv) (K : Bool → Option ρ) : qbM.t a b K = K (qbM a b) := cq (fun h0 => rfl) (fun h0 => cq (fun h1 => cq (fun h2 => rfl) (fun h2 => rfl)) (fun h1 => rfl))
theorem qbM.gives (a : Iv) (b : Iv) : qc7 Try.prog 16 [cIv.enc a, cIv.enc b] (qc3.enc (qbM a b)) :=
 qdD hmix [qaF.e] 0 none Try.func16 rfl rfl (Eq.trans (by kernel_rfl) (qbM.t_eq a b fun r => some (qc3.enc r, [])))
def qbG.t {ρ : Type} (i : Iv) (K : Bool → Option ρ) : Option ρ := K (qaF i)
theorem qbG.t_eq {ρ : Type} (i : Iv) (K : Bool → Option ρ) : qbG.t i K = K (qbG i) := rfl
theorem qbG.gives (i : Iv) : qc7 Try.prog 15 [cIv.enc i] (qc3.enc (qbG i)) :=
 qdD hmix [qaF.e] 0 none Try.func15 rfl rfl (Eq.trans (by kernel_rfl) (qbG.t_eq i fun r => some (qc3.enc r, [])))
end Go.Proofs.Ytogpbandlpjccaa
