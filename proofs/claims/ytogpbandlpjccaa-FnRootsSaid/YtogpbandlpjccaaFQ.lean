/- The sets of roots that are drawn. -/
import Derived.Test.YtogpbandlpjccaaFZ
set_option linter.unusedVariables false
set_option linter.unusedSimpArgs false
namespace Go.Proofs.Ytogpbandlpjccaa.TX
open Go.RowKit Go.Proofs.YtogpbandlpjccaaW.PrintWords Go.Proofs.YtogpbandlpjccaaW.PrintLast Go.Proofs.YtogpbandlpjccaaW.PrintMore Go.G880.Rt
def subO : List Int → List Int → Bool
 | [], _ => true
 | _, [] => false
 | a :: t, b :: u => bif isz (Int.sub a b) then subO t u else subO (a :: t) u
theorem subO_sub : ∀ {u t : List Int}, subO t u = true → t.Sublist u := by
 intro u
 induction u with
 | nil => intro t h; cases t with
  | nil => exact List.Sublist.slnil
  | cons _ _ => cases h
 | cons b u ih =>
  intro t h
  cases t with
  | nil => exact List.nil_sublist _
  | cons a t =>
   cases c : isz (Int.sub a b)
   ·simp only [subO, c, cond_false] at h
    exact (ih h).cons _
   ·have e : a - b = 0 := (isz_iff _).1 c
    obtain rfl : a = b := by omega
    simp only [subO, c, cond_true] at h
    exact (ih h).cons_cons _
def putOk (s : List Int) (n : Int) : Bool := match qa6.f 30 s n with
 | some t => subO t all9 && Nat.ble 1 t.length && Nat.ble t.length (s.length + 1)
 | none => false
set_option maxRecDepth 100000 in
set_option maxHeartbeats 0 in
theorem put_all : (subs all9).all (fun s => bif Nat.ble s.length 3 then all9.all (putOk s) else true) = true := by decide +kernel
theorem put_ev {s : List Int} {n : Int} (hs : s.Sublist all9) (hl : s.length ≤ 3) (hn : -4 ≤ n ∧ n ≤ 4) : ∃ t, Ev (fun k => qa6.f k s n) t ∧ t.Sublist all9 ∧ 1 ≤ t.length ∧ t.length ≤ s.length + 1 := by
 have h := List.all_eq_true.1 put_all s (mem_subs hs)
 rw [Nat.ble_eq_true_of_le hl, cond_true] at h
 have hm : n ∈ all9 := by
  simp only [all9, List.mem_cons, List.not_mem_nil, or_false]
  omega
 have h2 := List.all_eq_true.1 h n hm
 unfold putOk at h2
 cases e : qa6.f 30 s n with
 | none => rw [e] at h2; cases h2
 | some t =>
  rw [e] at h2
  simp only [Bool.and_eq_true, Nat.ble_eq] at h2
  exact ⟨t, Ev.of (qa6.mono s n) e, subO_sub h2.1.1, h2.1.2, h2.2⟩
theorem roots_loop {code : List Int} (hb : Bytes code) (hn : (code.length : Int) ≤ 3000) : ∀ (m : Nat) (s : List Int) (a z : Int), s.Sublist all9 → s.length + m ≤ 4 → (m = 0 → 1 ≤ s.length) → 0 ≤ a → a + 2 * m ≤ 100 →
  ∃ rs, Ev (fun k => qaY.l0 k s (m : Int) code a z) rs ∧ rs.Sublist all9 ∧ 1 ≤ rs.length ∧ rs.length ≤ 4 := by
 intro m
 induction m with
 | zero =>
  intro s a z hs hl h1 _ _
  refine ⟨s, qhN fun k => ?_, hs, h1 rfl, by omega⟩
  simp only [qaY.l0]
  rw [if_neg (by omega)]
 | succ m ih =>
  intro s a z hs hl _ h0 ha
  obtain ⟨x, a', z', e, x0, x1, a1, a2⟩ := pick_ex hb (by omega) a z 9 h0 (by omega)
  have x9 := x1 (by omega)
  obtain ⟨t, ht, t1, t2, t3⟩ := put_ev (n := x - 4) hs (by omega) (by omega)
  obtain ⟨rs, hr, r1⟩ := ih t a' z' t1 (by omega) (fun _ => t2) (by omega) (by omega)
  refine ⟨rs, Ev.step (fun k => ?_) (Ev.bind (f := fun k t => qaY.l0 k t (m : Int) code a' z') ht hr), r1⟩
  simp only [qaY.l0]
  rw [if_pos (by omega), e, Option.bind_some]
  simp only
  rw [qcH (x := x - 4) (by omega) (by omega), qcH (by omega) (by omega), show ((m + 1 : Nat) : Int) - 1 = (m : Int) by omega]
theorem roots_ev {code : List Int} (hb : Bytes code) (hn : (code.length : Int) ≤ 3000) : ∃ rs, Ev (fun k => qaY.f k code) rs ∧ rs.Sublist all9 ∧ 1 ≤ rs.length ∧ rs.length ≤ 4 := by
 obtain ⟨x, a', z', e, x0, x1, a1, a2⟩ := pick_ex hb (by omega) 0 0 4 (by omega) (by omega)
 have x4 := x1 (by omega)
 obtain ⟨m, hm⟩ : ∃ m : Nat, (m : Int) = 1 + x := ⟨(1 + x).toNat, by omega⟩
 obtain ⟨rs, hr, r1⟩ := roots_loop hb hn m [] a' z' (List.nil_sublist _) (by simp; omega) (fun h => by omega) (by omega) (by omega)
 refine ⟨rs, Ev.congr (fun k => ?_) hr, r1⟩
 simp only [qaY.f, qfM.f]
 rw [Option.bind_some]
 simp only
 rw [e, Option.bind_some]
 simp only
 rw [qcH (by omega) (by omega), hm]
end Go.Proofs.Ytogpbandlpjccaa.TX
