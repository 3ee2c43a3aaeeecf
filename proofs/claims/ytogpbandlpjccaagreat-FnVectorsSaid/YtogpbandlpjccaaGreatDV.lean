/- Draws of vectors and matrices. -/
import Derived.Test.YtogpbandlpjccaaGreatDB
set_option linter.unusedVariables false
set_option maxRecDepth 100000
namespace Go.Proofs.YtogpbandlpjccaaGreat.TX
open Go.RX
theorem hmix0 : Tryz.prog.follows .mixedOrders = true := by kernel_rfl
def partE : Entry Tryz.prog := entryS1 cIv 29 63 (.int .u8 0) 5 partF (fun rows a _ => okS rows a) (enters_of Tryz.func29 (by kernel_rfl) (by kernel_rfl)) (fun W rows a s h => part_does W 5 rows a s h)
def fromE : Entry Tryz.prog := entrySN 28 63 (.int .u8 0) 5 (fun rows => okS rows 0) (enters_of Tryz.func28 (by kernel_rfl) (by kernel_rfl)) (fun rows h => from_makes 5 rows h)
def numE : Entry Tryz.prog := entryS2 (cInt .i64) (cInt .i64) 49 63 (.int .u8 0) 5 numF (fun rows a s most => decide (0 ≤ most ∧ most ≤ 1000000000000) && okS rows a) (enters_of Tryz.func49 (by kernel_rfl) (by kernel_rfl)) (fun W rows a s most h => num_does W 5 rows a s most (by rw [Bool.and_comm]; exact h))
def spec_E8Vec (code : List Value) : V3 := ⟨(partF code (0 : Int) (0 : Int)).1, (partF code (partF code (0 : Int) (0 : Int)).2.1 (partF code (0 : Int) (0 : Int)).2.2).1, (partF code (partF code (partF code (0 : Int) (0 : Int)).2.1 (partF code (0 : Int) (0 : Int)).2.2).2.1 (partF code (partF code (0 : Int) (0 : Int)).2.1 (partF code (0 : Int) (0 : Int)).2.2).2.2).1⟩
def spec_E8Vec.t {ρ : Type} (code : List Value) (K : V3 → Option ρ) : Option ρ := (bif okS code 0 then (bif okS code (0 : Int) then (bif okS code (partF code (0 : Int) (0 : Int)).2.1 then (bif okS code (partF code (partF code (0 : Int) (0 : Int)).2.1 (partF code (0 : Int) (0 : Int)).2.2).2.1 then K (⟨(partF code (0 : Int) (0 : Int)).1, (partF code (partF code (0 : Int) (0 : Int)).2.1 (partF code (0 : Int) (0 : Int)).2.2).1, (partF code (partF code (partF code (0 : Int) (0 : Int)).2.1 (partF code (0 : Int) (0 : Int)).2.2).2.1 (partF code (partF code (0 : Int) (0 : Int)).2.1 (partF code (0 : Int) (0 : Int)).2.2).2.2).1⟩) else none) else none) else none) else none)
theorem spec_E8Vec.t_eq {ρ : Type} (code : List Value) (hpre : okS code 0 = true) (K : V3 → Option ρ) : spec_E8Vec.t code K = K (spec_E8Vec code) := by
  have b0 := partF_at (s := 0) hpre
  have h1 : okS code (partF code (0 : Int) (0 : Int)).2.1 = true := okS_mono hpre (by omega) (by omega)
  have b1 := partF_at (s := (partF code (0 : Int) (0 : Int)).2.2) h1
  have h2 : okS code (partF code (partF code (0 : Int) (0 : Int)).2.1 (partF code (0 : Int) (0 : Int)).2.2).2.1 = true := okS_mono hpre (by omega) (by omega)
  have b2 := partF_at (s := (partF code (partF code (0 : Int) (0 : Int)).2.1 (partF code (0 : Int) (0 : Int)).2.2).2.2) h2
  unfold spec_E8Vec.t spec_E8Vec
  rw [hpre, cond_true]
  rw [cond_true]
  rw [h1, cond_true]
  rw [h2, cond_true]
set_option maxHeartbeats 1000000 in
theorem spec_E8Vec.gives (code : List Value) (hpre : okS code 0 = true) : GivesA Tryz.prog 5 [(aL (.int .u8 0) 5).enc code] (cV3.enc (spec_E8Vec code)) :=
  givesA_L hmix0 [fromE, partE, numE] 6 none noL Tryz.func5 rfl (fun _ _ => noL_ok) ((by kernel_rfl : run1 Tryz.prog (tab [fromE, partE, numE]) 6 none noL Tryz.f5 (argVals 0 [(aL (.int .u8 0) 5).enc code]) (argBlocks [(aL (.int .u8 0) 5).enc code]) = spec_E8Vec.t code fun r => some (cV3.enc r, argBlocks [(aL (.int .u8 0) 5).enc code])).trans (spec_E8Vec.t_eq code hpre _))
def spec_E8Vec.e : Entry Tryz.prog := entryA1 (aL (.int .u8 0) 5) cV3 5 spec_E8Vec (fun code => okS code 0) (fun code h => spec_E8Vec.gives code h)
def spec_E8Fix (code : List Value) (most : Int) : Int := (numF code 0 0 most).1
def spec_E8Fix.t {ρ : Type} (code : List Value) (most : Int) (K : Int → Option ρ) : Option ρ := bif okS code 0 then (bif (decide (0 ≤ most ∧ most ≤ 1000000000000) && okS code 0) then K (numF code 0 0 most).1 else none) else none
theorem spec_E8Fix.t_eq {ρ : Type} (code : List Value) (most : Int) (hpre : (decide (0 ≤ most ∧ most ≤ 1000000000000) && okS code 0) = true) (K : Int → Option ρ) : spec_E8Fix.t code most K = K (spec_E8Fix code most) := by
  have h : okS code 0 = true := by simp only [Bool.and_eq_true] at hpre; exact hpre.2
  unfold spec_E8Fix.t spec_E8Fix
  rw [hpre, h]
  rfl
theorem spec_E8Fix.gives (code : List Value) (most : Int) (hpre : (decide (0 ≤ most ∧ most ≤ 1000000000000) && okS code 0) = true) : GivesA Tryz.prog 15 [(aL (.int .u8 0) 5).enc code, (aV (cInt .i64)).enc most] ((cInt .i64).enc (spec_E8Fix code most)) :=
  givesA_L hmix0 [fromE, numE] 6 none noL Tryz.func15 rfl (fun _ _ => noL_ok) ((by kernel_rfl : run1 Tryz.prog (tab [fromE, numE]) 6 none noL Tryz.f15 (argVals 0 [(aL (.int .u8 0) 5).enc code, (aV (cInt .i64)).enc most]) (argBlocks [(aL (.int .u8 0) 5).enc code, (aV (cInt .i64)).enc most]) = spec_E8Fix.t code most fun r => some ((cInt .i64).enc r, argBlocks [(aL (.int .u8 0) 5).enc code, (aV (cInt .i64)).enc most])).trans (spec_E8Fix.t_eq code most hpre _))
def spec_E8Fix.e : Entry Tryz.prog := entryA2 (aL (.int .u8 0) 5) (aV (cInt .i64)) (cInt .i64) 15 spec_E8Fix (fun code most => decide (0 ≤ most ∧ most ≤ 1000000000000) && okS code 0) (fun code most h => spec_E8Fix.gives code most h)
end Go.Proofs.YtogpbandlpjccaaGreat.TX
