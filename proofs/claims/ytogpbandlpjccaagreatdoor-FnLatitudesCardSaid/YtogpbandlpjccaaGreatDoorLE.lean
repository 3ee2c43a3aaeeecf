/- The names of the latitudes as plain functions, and their contracts. -/
import Derived.Test.YtogpbandlpjccaaGreatDoorLN
import Derived.Test.YtogpbandlpjccaaGreatDoorDB
import Derived.Test.YtogpbandlpjccaaGreatDoorRxO
set_option linter.unusedVariables false
namespace Go.Proofs.YtogpbandlpjccaaGreatDoor
open Go Go.RX Go.RowKit
def namesT : Prem := ⟨Table, fun _ _ h hb => h.below hb⟩
end Go.Proofs.YtogpbandlpjccaaGreatDoor
namespace Go.G880
open Go Go.RX Go.RowKit Go.Proofs.YtogpbandlpjccaaGreatDoor
def impl_LatitudeName (kind : Int) : ByteArray := lnm kind.toNat
def impl_LatitudeNamed (s : ByteArray) : Int := if s = lnm 1 then 1 else if s = lnm 2 then 2 else if s = lnm 3 then 3 else if s = lnm 4 then 4 else if s = lnm 5 then 5 else if s = lnm 6 then 6 else 0
def isLatName (s : ByteArray) : Bool := decide (s = lnm 1 ∨ s = lnm 2 ∨ s = lnm 3 ∨ s = lnm 4 ∨ s = lnm 5 ∨ s = lnm 6)
theorem named_name {k : Int} (h : 1 ≤ k ∧ k ≤ 6) : impl_LatitudeNamed (impl_LatitudeName k) = k ∧ isLatName (impl_LatitudeName k) = true := by
 have : k = 1 ∨ k = 2 ∨ k = 3 ∨ k = 4 ∨ k = 5 ∨ k = 6 := by omega
 rcases this with rfl | rfl | rfl | rfl | rfl | rfl <;> exact ⟨by decide +kernel, by decide +kernel⟩
end Go.G880
namespace Go.Proofs.YtogpbandlpjccaaGreatDoor
open Go Go.RX Go.RowKit Go.G880
theorem impl_LatitudeName.gives (kind : Int) (h : decide (1 ≤ kind ∧ kind ≤ 6) = true) : GivesVU Tryz.prog namesT 15 [(cInt .i64).enc kind] (cStr.enc (impl_LatitudeName kind)) := by
 refine givesVU_of (enters_of Tryz.func15 (by kernel_rfl) (by kernel_rfl)) rfl rfl fun w hT => ?_
 have h := of_decide_eq_true h
 have hT : Table w := hT
 have : kind = 1 ∨ kind = 2 ∨ kind = 3 ∨ kind = 4 ∨ kind = 5 ∨ kind = 6 := by omega
 rcases this with rfl | rfl | rfl | rfl | rfl | rfl
 ·exact (name1 w (hT 1 (by omega))).mono fun e w' h => ⟨h.1, by rw [h.2]; exact Below.refl _ _⟩
 ·exact (name2 w (hT 2 (by omega))).mono fun e w' h => ⟨h.1, by rw [h.2]; exact Below.refl _ _⟩
 ·exact (name3 w (hT 3 (by omega))).mono fun e w' h => ⟨h.1, by rw [h.2]; exact Below.refl _ _⟩
 ·exact (name4 w (hT 4 (by omega))).mono fun e w' h => ⟨h.1, by rw [h.2]; exact Below.refl _ _⟩
 ·exact (name5 w (hT 5 (by omega))).mono fun e w' h => ⟨h.1, by rw [h.2]; exact Below.refl _ _⟩
 ·exact (name6 w (hT 6 (by omega))).mono fun e w' h => ⟨h.1, by rw [h.2]; exact Below.refl _ _⟩
def impl_LatitudeName.e : EntryU Tryz.prog namesT := entry1P (cInt .i64) cStr 15 impl_LatitudeName (fun kind => decide (1 ≤ kind ∧ kind ≤ 6)) impl_LatitudeName.gives
theorem impl_LatitudeNamed.gives (s : ByteArray) (h : isLatName s = true) : GivesVU Tryz.prog namesT 14 [cStr.enc s] ((cInt .i64).enc (impl_LatitudeNamed s)) := by
 refine givesVU_of (enters_of Tryz.func14 (by kernel_rfl) (by kernel_rfl)) rfl rfl fun w hT => ?_
 have h := of_decide_eq_true h
 have hT : Table w := hT
 have q : ∀ k : Nat, 1 ≤ k → k ≤ 6 → impl_LatitudeNamed (lnm k) = k := fun k h1 h2 => by
  have := (named_name (k := (k : Int)) (by omega)).1
  simpa [impl_LatitudeName] using this
 rcases h with rfl | rfl | rfl | rfl | rfl | rfl
 ·rw [q 1 (by omega) (by omega)]; exact (named1 w hT).mono fun e w' h => ⟨h.1, by rw [h.2]; exact Below.refl _ _⟩
 ·rw [q 2 (by omega) (by omega)]; exact (named2 w hT).mono fun e w' h => ⟨h.1, by rw [h.2]; exact Below.refl _ _⟩
 ·rw [q 3 (by omega) (by omega)]; exact (named3 w hT).mono fun e w' h => ⟨h.1, by rw [h.2]; exact Below.refl _ _⟩
 ·rw [q 4 (by omega) (by omega)]; exact (named4 w hT).mono fun e w' h => ⟨h.1, by rw [h.2]; exact Below.refl _ _⟩
 ·rw [q 5 (by omega) (by omega)]; exact (named5 w hT).mono fun e w' h => ⟨h.1, by rw [h.2]; exact Below.refl _ _⟩
 ·rw [q 6 (by omega) (by omega)]; exact (named6 w hT).mono fun e w' h => ⟨h.1, by rw [h.2]; exact Below.refl _ _⟩
def impl_LatitudeNamed.e : EntryU Tryz.prog namesT := entry1P cStr (cInt .i64) 14 impl_LatitudeNamed isLatName impl_LatitudeNamed.gives
theorem at_kind {d : List Value} (hd : TX.bytesOk d = true) : 0 ≤ laws_a2At d 0 6 ∧ laws_a2At d 0 6 ≤ 5 := by
 unfold laws_a2At
 cases h : decide ((0 : Int) ≥ (d.length : Int)) with
 | true => simp
 | false =>
  have h := of_decide_eq_false h
  simp only [cond_false, show decide ((6 : Int) < 1) = false from rfl]
  have hb : 0 ≤ atI d false 0 ∧ atI d false 0 ≤ 255 := by
   cases d with
   | nil => simp at h
   | cons x l =>
    simp only [TX.bytesOk, List.all_cons, Bool.and_eq_true, decide_eq_true_eq] at hd
    exact hd.1
  rw [w64_id (by omega) (by omega)]
  have := Int.tmod_nonneg (a := atI d false 0) 6 (by omega)
  have := Int.tmod_lt_of_pos (atI d false 0) (b := 6) (by omega)
  omega
theorem pd_name1 {d i : List Value} (hpre : (TX.bytesOk d && TX.bytesOk i) = true) : decide (1 ≤ w64 (1 + laws_a2At d 0 6) ∧ w64 (1 + laws_a2At d 0 6) ≤ 6) = true := by
 simp only [Bool.and_eq_true] at hpre
 have := at_kind hpre.1
 rw [w64_id (by omega) (by omega)]
 exact decide_eq_true (by omega)
theorem pd_name2 {d i : List Value} (hpre : (TX.bytesOk d && TX.bytesOk i) = true) : isLatName (impl_LatitudeName (w64 (1 + laws_a2At d 0 6))) = true :=
 (named_name (of_decide_eq_true (pd_name1 hpre))).2
end Go.Proofs.YtogpbandlpjccaaGreatDoor
