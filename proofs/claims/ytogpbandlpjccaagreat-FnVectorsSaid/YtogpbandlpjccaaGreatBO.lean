/- Rows of bytes that are not too long. -/
import Derived.Test.YtogpbandlpjccaaGreatDV
set_option linter.unusedVariables false
namespace Go.Proofs.YtogpbandlpjccaaGreat.TX
open Go.RX
def bytesOk (rows : List Value) : Bool := rows.all (fun x => decide (0 ≤ cI x) && decide (cI x ≤ 255))
theorem okS_of {rows : List Value} (h : bytesOk rows = true) (h1 : (rows.length : Int) ≤ 1048576) : okS rows 0 = true := by
  simp only [okS, Bool.and_eq_true, decide_eq_true_eq]
  exact ⟨h, by omega, by omega, by omega⟩
theorem long_no {d i : List Value} (h0 : (bif decide ((d.length : Int) > 1048576) then true else decide ((i.length : Int) > 1048576)) = false) : (d.length : Int) ≤ 1048576 ∧ (i.length : Int) ≤ 1048576 := by
  cases h : decide ((d.length : Int) > 1048576)
  · rw [h, cond_false] at h0
    have h := of_decide_eq_false h
    have h0 := of_decide_eq_false h0
    omega
  · rw [h, cond_true] at h0; cases h0
theorem pd_ok1 {d i : List Value} (hpre : (bytesOk d && bytesOk i) = true) (h0 : (bif decide ((d.length : Int) > 1048576) then true else decide ((i.length : Int) > 1048576)) = false) : okS d 0 = true :=
  okS_of (Bool.and_eq_true _ _ ▸ hpre).1 (long_no h0).1
theorem pd_ok2 {d i : List Value} (hpre : (bytesOk d && bytesOk i) = true) (h0 : (bif decide ((d.length : Int) > 1048576) then true else decide ((i.length : Int) > 1048576)) = false) : okS i 0 = true :=
  okS_of (Bool.and_eq_true _ _ ▸ hpre).2 (long_no h0).2
end Go.Proofs.YtogpbandlpjccaaGreat.TX
