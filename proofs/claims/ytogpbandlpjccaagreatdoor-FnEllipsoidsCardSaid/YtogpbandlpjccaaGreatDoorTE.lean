/- The texts of ellipsoids as plain functions, and their contracts. -/
import Derived.Test.YtogpbandlpjccaaGreatDoorEX
import Derived.Test.YtogpbandlpjccaaGreatDoorDB
import Derived.Test.YtogpbandlpjccaaGreatDoorRxO
set_option linter.unusedVariables false
set_option linter.unusedSimpArgs false
namespace Go.Proofs.YtogpbandlpjccaaGreatDoor
open Go Go.RX Go.RowKit
def okT : Prem := ⟨TX.Ok_ false, fun _ _ h hb => TX.okd_ h hb⟩
end Go.Proofs.YtogpbandlpjccaaGreatDoor
namespace Go.G880
open Go Go.RX Go.RowKit Go.Proofs.YtogpbandlpjccaaGreatDoor Go.TX Go.Lib
def ellL (e : El) : List UInt8 := itoa e.a ++ 32 :: (itoa e.num ++ 47 :: itoa e.den)
def impl_EllipsoidText (e : El) : ByteArray := ⟨(ellL e).toArray⟩
def ellOf (l : List UInt8) : El := ⟨TX.numOf (cut1 32 l).1, TX.numOf (cut1 47 (cut1 32 l).2).1, TX.numOf (cut1 47 (cut1 32 l).2).2⟩
def isEllText (s : ByteArray) : Bool := decide (s.size < 4294967281) && (TX.isNum (cut1 32 s.data.toList).1 && TX.isNum (cut1 47 (cut1 32 s.data.toList).2).1 && TX.isNum (cut1 47 (cut1 32 s.data.toList).2).2) && impl_ValidEllipsoid (ellOf s.data.toList)
def impl_ReadEllipsoid (s : ByteArray) : El × Bool := (ellOf s.data.toList, true)
theorem ell_bounds {e : El} (h : impl_ValidEllipsoid e = true) : (0 ≤ e.a ∧ e.a < 1000000000000000000) ∧ (0 ≤ e.num ∧ e.num < 1000000000000000000) ∧ (0 ≤ e.den ∧ e.den < 1000000000000000000) := by
 unfold impl_ValidEllipsoid at h
 cases c1 : impl_within e.a 1000 100000000000
 ·rw [c1] at h; simp at h
 cases c2 : impl_within e.den 1 1000000000000
 ·rw [c1, c2] at h; simp at h
 rw [c1, c2] at h
 simp only [cond_true] at h
 have a := (l00In_iff _ _ _).1 c1
 have b := (l00In_iff _ _ _).1 c2
 have c := (l00In_iff _ _ _).1 h
 have d := c.2
 rw [tdiv_nn _ (by omega), w64_id (by omega) (by omega)] at d
 omega
theorem num_len {v : Int} (h : 0 ≤ v ∧ v < 1000000000000000000) : (itoa v).length ≤ 18 := by
 rw [TX.itoa_nn h.1]; exact dec_length_le _ 18 (by omega) (by omega)
theorem num_not {v : Int} (h : 0 ≤ v) {b : UInt8} (hb : isD b = false) : b ∉ itoa v := by
 rw [TX.itoa_nn h]; exact not_mem_of_all (dec_isD _) hb
theorem ell_cut {e : El} (h : impl_ValidEllipsoid e = true) : cut1 32 (ellL e) = (itoa e.a, itoa e.num ++ 47 :: itoa e.den) ∧ cut1 47 (itoa e.num ++ 47 :: itoa e.den) = (itoa e.num, itoa e.den) := by
 have b := ell_bounds h
 exact ⟨cut1_append _ (num_not b.1.1 (by decide)), cut1_append _ (num_not b.2.1.1 (by decide))⟩
theorem read_text {e : El} (h : impl_ValidEllipsoid e = true) : isEllText (impl_EllipsoidText e) = true ∧ impl_ReadEllipsoid (impl_EllipsoidText e) = (e, true) := by
 have b := ell_bounds h
 obtain ⟨c1, c2⟩ := ell_cut h
 have n1 := TX.num_itoa b.1
 have n2 := TX.num_itoa b.2.1
 have n3 := TX.num_itoa b.2.2
 have eL : (impl_EllipsoidText e).data.toList = ellL e := by simp [impl_EllipsoidText]
 have o : ellOf (ellL e) = e := by
  unfold ellOf
  rw [c1]
  simp only
  rw [c2]
  simp only [n1.2, n2.2, n3.2]
 have l1 := num_len b.1
 have l2 := num_len b.2.1
 have l3 := num_len b.2.2
 constructor
 ·unfold isEllText
  rw [eL, o, c1]
  simp only
  rw [c2]
  simp only [n1.1, n2.1, n3.1, h, Bool.and_true]
  refine decide_eq_true ?_
  have : (impl_EllipsoidText e).size = (ellL e).length := by simp [impl_EllipsoidText, ByteArray.size]
  rw [this]
  simp only [ellL, List.length_append, List.length_cons]
  omega
 ·unfold impl_ReadEllipsoid
  rw [eL, o]
end Go.G880
namespace Go.Proofs.YtogpbandlpjccaaGreatDoor
open Go Go.RX Go.RowKit Go.G880 Go.TX Go.Lib
theorem bsA (l m : List UInt8) : (⟨l.toArray⟩ ++ ⟨m.toArray⟩ : ByteArray) = ⟨(l ++ m).toArray⟩ := by
 have e : ∀ s : ByteArray, (⟨s.data.toList.toArray⟩ : ByteArray) = s := fun s => by cases s with | mk d => rfl
 rw [← e (⟨l.toArray⟩ ++ ⟨m.toArray⟩ : ByteArray)]
 simp
theorem validE_f (a b c : Int) : TE.impl_ValidEllipsoid.f a b c = some (impl_ValidEllipsoid ⟨a, b, c⟩) := by
 have w : ∀ x y z, TE.impl_within.f x y z = some (impl_within x y z) := fun x y z => by
  unfold TE.impl_within.f impl_within
  by_cases h : x ≥ y
  ·rw [if_pos h, decide_eq_true h]; rfl
  ·rw [if_neg h, decide_eq_false h]; rfl
 unfold TE.impl_ValidEllipsoid.f impl_ValidEllipsoid
 rw [w, w, w, show wrap64 (Int.tdiv c 100) = w64 (Int.tdiv c 100) from by rw [w64_def]; unfold wrap64; rfl]
 simp only [Option.bind_some]
 cases impl_within a 1000 100000000000
 ·rfl
 cases impl_within c 1 1000000000000
 ·rfl
 rfl
theorem text_f {e : El} (h : impl_ValidEllipsoid e = true) : TE.impl_EllipsoidText.f e.a e.num e.den = some (impl_EllipsoidText e) := by
 have b := ell_bounds h
 have l1 := num_len b.1
 have l2 := num_len b.2.1
 have l3 := num_len b.2.2
 have d : ∀ v : Int, 0 ≤ v ∧ v < 1000000000000000000 → TE.impl_Decimal.f v = some ⟨(itoa v).toArray⟩ := fun v hv => by
  unfold TE.impl_Decimal.f TE.strconv_FormatInt_197.f
  rw [if_pos rfl, if_pos (by omega)]
  rfl
 have e1 : (⟨#[32]⟩ : ByteArray) = ⟨([32] : List UInt8).toArray⟩ := rfl
 have e2 : (⟨#[47]⟩ : ByteArray) = ⟨([47] : List UInt8).toArray⟩ := rfl
 have sz : ∀ l : List UInt8, (⟨l.toArray⟩ : ByteArray).size = l.length := fun l => by simp [ByteArray.size]
 unfold TE.impl_EllipsoidText.f
 rw [validE_f]
 have h' : impl_ValidEllipsoid ⟨e.a, e.num, e.den⟩ = true := h
 rw [h', Option.bind_some, if_pos rfl]
 unfold TE.impl_ellipsoidText.f
 rw [d _ b.1, d _ b.2.1, d _ b.2.2]
 simp only [Option.bind_some]
 rw [e1, e2, bsA, bsA, bsA, bsA]
 simp only [sz, List.length_append, List.length_cons, List.length_nil]
 rw [if_pos (by omega), if_pos (by omega), if_pos (by omega), if_pos (by omega), Option.bind_some]
 simp [impl_EllipsoidText, ellL]
theorem read_f {s : ByteArray} (h : isEllText s = true) : TE.impl_ReadEllipsoid.f s = some ((ellOf s.data.toList).a, (ellOf s.data.toList).num, (ellOf s.data.toList).den, true) := by
 unfold isEllText at h
 simp only [Bool.and_eq_true] at h
 obtain ⟨⟨h1, ⟨h2, h3⟩, h4⟩, h5⟩ := h
 have h1 := of_decide_eq_true h1
 have sz : ∀ l : List UInt8, (⟨l.toArray⟩ : ByteArray).size = l.length := fun l => by simp [ByteArray.size]
 have cutf : ∀ (t : ByteArray) (c : UInt8), t.size < 4294967281 → TE.strings_Cut.f t ⟨#[c]⟩ = some (⟨(cut1 c t.data.toList).1.toArray⟩, ⟨(cut1 c t.data.toList).2.toArray⟩, decide (c ∈ t.data.toList)) := fun t c ht => by
  unfold TE.strings_Cut.f
  rw [if_pos ht]
  have := cut_eq c t.data.toList
  rw [this]
 have len2 : (cut1 32 s.data.toList).2.length ≤ s.data.toList.length := by
  by_cases m : (32 : UInt8) ∈ s.data.toList
  ·have := congrArg List.length (cut1_parts m)
   simp only [List.length_append, List.length_cons] at this
   omega
  ·rw [cut1_none m]; simp
 have ls : s.data.toList.length = s.size := by rw [Array.length_toList]; rfl
 unfold TE.impl_ReadEllipsoid.f
 rw [cutf s 32 h1]
 simp only [Option.bind_some]
 rw [cutf _ 47 (by rw [sz]; omega)]
 simp only [Option.bind_some, TE.impl_ReadDecimal.f, h2, h3, h4, if_true]
 rw [validE_f]
 have h5' : impl_ValidEllipsoid ⟨TX.numOf (cut1 32 s.data.toList).1, TX.numOf (cut1 47 (cut1 32 s.data.toList).2).1, TX.numOf (cut1 47 (cut1 32 s.data.toList).2).2⟩ = true := h5
 rw [h5', Option.bind_some, if_pos rfl]
 rfl
theorem impl_EllipsoidText.gives (e : El) (h : impl_ValidEllipsoid e = true) : GivesVU Tryz.prog okT 52 [cEl.enc e] (cStr.enc (impl_EllipsoidText e)) := by
 refine givesVU_of (enters_of Tryz.func52 (by kernel_rfl) rfl) rfl rfl fun w hT => ?_
 exact TE.impl_EllipsoidText.calls (b_ := false) e.a e.num e.den _ w hT (text_f h)
def impl_EllipsoidText.e : EntryU Tryz.prog okT := entry1P cEl cStr 52 impl_EllipsoidText (fun e => impl_ValidEllipsoid e) impl_EllipsoidText.gives
theorem impl_ReadEllipsoid.gives (s : ByteArray) (h : isEllText s = true) : GivesVU Tryz.prog okT 51 [cStr.enc s] ((cT2 cEl cBool).enc (impl_ReadEllipsoid s)) := by
 refine givesVU_of (enters_of Tryz.func51 (by kernel_rfl) rfl) rfl rfl fun w hT => ?_
 exact TE.impl_ReadEllipsoid.calls (b_ := false) s _ _ _ w hT (read_f h)
def impl_ReadEllipsoid.e : EntryU Tryz.prog okT := entry1P cStr (cT2 cEl cBool) 51 impl_ReadEllipsoid isEllText impl_ReadEllipsoid.gives
end Go.Proofs.YtogpbandlpjccaaGreatDoor
/- More Go functions as plain Lean functions. -/
set_option linter.unusedVariables false
namespace Go.G880
open Go Go.RX
def spec_LessI (a : Iv) (b : Iv) : Int := bif (!(spec_l04Ok a)) then 2 else (bif (!(spec_l04Ok b)) then 2 else (bif decide (a.hi < b.lo) then 1 else (bif decide (a.lo ≥ b.hi) then 0 else 2)))
end Go.G880
/- The drawn ellipsoid is valid, and so are the points. -/
set_option linter.unusedVariables false
namespace Go.Proofs.YtogpbandlpjccaaGreatDoor.TX
open Go Go.RX Go.G880
theorem valid_of {e : El} (h : VE e.a e.num e.den) : impl_ValidEllipsoid e = true := by
 obtain ⟨h1, h2, h3, h4, h5, h6⟩ := h
 have c1 : impl_within e.a 1000 100000000000 = true := (l00In_iff _ _ _).2 ⟨h1, h2⟩
 have c2 : impl_within e.den 1 1000000000000 = true := (l00In_iff _ _ _).2 ⟨h3, h4⟩
 unfold impl_ValidEllipsoid
 simp only [c1, c2, cond_true]
 rw [tdiv_nn _ (by omega), w64_id (by omega) (by omega)]
 exact (l00In_iff _ _ _).2 ⟨h5, by omega⟩
theorem pd_ell1 {d i : List Value} (hpre : (bytesOk d && bytesOk i) = true) (h0 : laws_a2Long d i = false) : impl_ValidEllipsoid (spec_A2Ellipsoid d) = true :=
 valid_of (elF_ok (pd_okA1 hpre h0))
theorem pd_ell2 {d i : List Value} (hpre : (bytesOk d && bytesOk i) = true) (h0 : laws_a2Long d i = false) : isEllText (impl_EllipsoidText (spec_A2Ellipsoid d)) = true :=
 (read_text (pd_ell1 hpre h0)).1
theorem pts_ok {i : List Value} (h : okS i 0 = true) : ∀ p, p = (spec_A2Points i).1 ∨ p = (spec_A2Points i).2.1 → (-900000000 ≤ p.lat ∧ p.lat ≤ 900000000) ∧ -1799999999 ≤ p.lon ∧ p.lon ≤ 1800000000 := by
 rintro p (rfl | rfl)
 ·exact ptF_ok h
 ·have a := ptF_at (s := 0) h
  exact ptF_ok (okS_mono h (by omega) (by omega))
end Go.Proofs.YtogpbandlpjccaaGreatDoor.TX
