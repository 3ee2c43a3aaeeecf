/- The walk of readDigits. -/
import Derived.Test.YtoncbpohjdackaaDoorN1
import Derived.Test.YtoncbpohjdackaaDoorQ2
set_option linter.unusedVariables false
set_option linter.unusedSimpArgs false
namespace Go.Proofs.YtoncbpohjdackaaDoor.TX
open Go.RowKit Go.TX Go.Proofs.YtoncbpohjdackaaDoorW.PrintWords Go.Proofs.YtoncbpohjdackaaDoorW.PrintLast
set_option maxRecDepth 100000 in
theorem rd_no1 {b : Bool} (s whole part uns : ByteArray) (point : Bool) (w : World)
    (hcut : ∀ w, Ok_ b w → Calls Tryd.prog 39 #[.string s, .string ⟨#[46]⟩] w fun e w' => e = .returned (.tuple #[.string whole, .string part, .bool point]) ∧ Below w.heap.size w w')
    (htrim : ∀ w, Calls Tryd.prog 42 #[.string whole, .string ⟨#[45]⟩] w fun e w' => e = .returned (.string uns) ∧ Below w.heap.size w w')
    (f1 : (point = decide (0 < part.size)) = False) (f1x : (point == decide (0 < part.size)) = false) (hO : Ok_ b w) :
    Calls Tryd.prog 64 #[.string s] w fun e w' => e = .returned (.tuple #[.int .i64 0, .int .i64 0, .bool false]) ∧ Below w.heap.size w w' := by
  go_enter Tryd.func64, Tryd.ntmps64
  go_wp2_with (first | (go_at_call 39; refine (hcut _ hO).mono ?_; rintro e w1 ⟨rfl, hB1⟩) | (go_at_call 42; refine (htrim _).mono ?_; rintro e w2 ⟨rfl, hB2⟩))
  go_ret3
  exact ⟨rfl, hB1.trans (hB2.mono hB1.size)⟩
set_option maxRecDepth 100000 in
theorem rd_no2 {b : Bool} (s whole part uns : ByteArray) (point : Bool) (w : World)
    (hcut : ∀ w, Ok_ b w → Calls Tryd.prog 39 #[.string s, .string ⟨#[46]⟩] w fun e w' => e = .returned (.tuple #[.string whole, .string part, .bool point]) ∧ Below w.heap.size w w')
    (htrim : ∀ w, Calls Tryd.prog 42 #[.string whole, .string ⟨#[45]⟩] w fun e w' => e = .returned (.string uns) ∧ Below w.heap.size w w')
    (f1 : (point = decide (0 < part.size)) = True) (f1x : (point == decide (0 < part.size)) = true) (f2 : decide (9 < (part.size : Int)) = true) (f2x : ((part.size : Int) ≤ 9) = False) (f2y : (9 < (part.size : Int)) = True) (hO : Ok_ b w) :
    Calls Tryd.prog 64 #[.string s] w fun e w' => e = .returned (.tuple #[.int .i64 0, .int .i64 0, .bool false]) ∧ Below w.heap.size w w' := by
  go_enter Tryd.func64, Tryd.ntmps64
  go_wp2_with (first | (go_at_call 39; refine (hcut _ hO).mono ?_; rintro e w1 ⟨rfl, hB1⟩) | (go_at_call 42; refine (htrim _).mono ?_; rintro e w2 ⟨rfl, hB2⟩))
  go_ret3
  exact ⟨rfl, hB1.trans (hB2.mono hB1.size)⟩
set_option maxRecDepth 100000 in
theorem rd_no3 {b : Bool} (s whole part uns : ByteArray) (point : Bool) (w : World)
    (hcut : ∀ w, Ok_ b w → Calls Tryd.prog 39 #[.string s, .string ⟨#[46]⟩] w fun e w' => e = .returned (.tuple #[.string whole, .string part, .bool point]) ∧ Below w.heap.size w w')
    (htrim : ∀ w, Calls Tryd.prog 42 #[.string whole, .string ⟨#[45]⟩] w fun e w' => e = .returned (.string uns) ∧ Below w.heap.size w w')
    (hwithin : ∀ w, Calls Tryd.prog 31 #[.int .i64 uns.size, .int .i64 1, .int .i64 9] w fun e w' => e = .returned (.bool false) ∧ Drawn0 w w')
    (f1 : (point = decide (0 < part.size)) = True) (f1x : (point == decide (0 < part.size)) = true) (f2 : decide (9 < (part.size : Int)) = false) (f2x : ((part.size : Int) ≤ 9) = True) (f2y : (9 < (part.size : Int)) = False) (hO : Ok_ b w) :
    Calls Tryd.prog 64 #[.string s] w fun e w' => e = .returned (.tuple #[.int .i64 0, .int .i64 0, .bool false]) ∧ Below w.heap.size w w' := by
  go_enter Tryd.func64, Tryd.ntmps64
  go_wp2_with (first | (go_at_call 39; refine (hcut _ hO).mono ?_; rintro e w1 ⟨rfl, hB1⟩) | (go_at_call 42; refine (htrim _).mono ?_; rintro e w2 ⟨rfl, hB2⟩) | (go_at_call 31; refine (hwithin _).mono ?_; rintro e w3 ⟨rfl, hD3⟩))
  go_ret3
  exact ⟨rfl, (hB1.trans (hB2.mono hB1.size)).trans (hD3.below.mono (Nat.le_trans hB1.size hB2.size))⟩
set_option maxRecDepth 100000 in
theorem rd_no4 {b : Bool} (s whole part uns t : ByteArray) (point : Bool) (w : World)
    (hcut : ∀ w, Ok_ b w → Calls Tryd.prog 39 #[.string s, .string ⟨#[46]⟩] w fun e w' => e = .returned (.tuple #[.string whole, .string part, .bool point]) ∧ Below w.heap.size w w')
    (htrim : ∀ w, Calls Tryd.prog 42 #[.string whole, .string ⟨#[45]⟩] w fun e w' => e = .returned (.string uns) ∧ Below w.heap.size w w')
    (hwithin : ∀ w, Calls Tryd.prog 31 #[.int .i64 uns.size, .int .i64 1, .int .i64 9] w fun e w' => e = .returned (.bool true) ∧ Drawn0 w w')
    (hcat : 9223372036854775807 < uns.size + part.size ↔ False) (htr : ∀ w, Calls Tryd.prog 43 #[.string (uns ++ part), .string ⟨#[48, 49, 50, 51, 52, 53, 54, 55, 56, 57]⟩] w fun e w' => e = .returned (.string t) ∧ Below w.heap.size w w')
    (f1 : (point = decide (0 < part.size)) = True) (f1x : (point == decide (0 < part.size)) = true) (f2 : decide (9 < (part.size : Int)) = false) (f2x : ((part.size : Int) ≤ 9) = True) (f2y : (9 < (part.size : Int)) = False) (f3 : (t.toList == []) = false) (hO : Ok_ b w) :
    Calls Tryd.prog 64 #[.string s] w fun e w' => e = .returned (.tuple #[.int .i64 0, .int .i64 0, .bool false]) ∧ Below w.heap.size w w' := by
  go_enter Tryd.func64, Tryd.ntmps64
  go_wp2_with (first | (go_at_call 39; refine (hcut _ hO).mono ?_; rintro e w1 ⟨rfl, hB1⟩) | (go_at_call 42; refine (htrim _).mono ?_; rintro e w2 ⟨rfl, hB2⟩) | (go_at_call 31; refine (hwithin _).mono ?_; rintro e w3 ⟨rfl, hD3⟩) | (go_at_call 43; refine (htr _).mono ?_; rintro e w4 ⟨rfl, hB4⟩))
  go_ret3
  exact ⟨rfl, ((hB1.trans (hB2.mono hB1.size)).trans (hD3.below.mono (Nat.le_trans hB1.size hB2.size))).trans (hB4.mono (Nat.le_trans hB1.size (Nat.le_trans hB2.size hD3.below.size)))⟩
set_option maxRecDepth 100000 in
set_option maxHeartbeats 1000000 in
theorem rd_yes1 {b : Bool} (s whole part uns t d : ByteArray) (n : Nat) (point : Bool) (w : World)
    (hcut : ∀ w, Ok_ b w → Calls Tryd.prog 39 #[.string s, .string ⟨#[46]⟩] w fun e w' => e = .returned (.tuple #[.string whole, .string part, .bool point]) ∧ Below w.heap.size w w')
    (htrim : ∀ w, Calls Tryd.prog 42 #[.string whole, .string ⟨#[45]⟩] w fun e w' => e = .returned (.string uns) ∧ Below w.heap.size w w')
    (hwithin : ∀ w, Calls Tryd.prog 31 #[.int .i64 uns.size, .int .i64 1, .int .i64 9] w fun e w' => e = .returned (.bool true) ∧ Drawn0 w w')
    (hcat : 9223372036854775807 < uns.size + part.size ↔ False) (htr : ∀ w, Calls Tryd.prog 43 #[.string (uns ++ part), .string ⟨#[48, 49, 50, 51, 52, 53, 54, 55, 56, 57]⟩] w fun e w' => e = .returned (.string t) ∧ Below w.heap.size w w')
    (hn18 : n < 1000000000000000000) (hn : val 0 (uns ++ part).data.toList = n) (hd : (uns ++ part).data.toList.all isD = true) (hl : (uns ++ part).size ≤ 18)
    (f1 : (point = decide (0 < part.size)) = True) (f1x : (point == decide (0 < part.size)) = true) (f2 : decide (9 < (part.size : Int)) = false) (f2x : ((part.size : Int) ≤ 9) = True) (f2y : (9 < (part.size : Int)) = False) (f3 : (t.toList == []) = true) (f4 : (uns.toList == whole.toList) = true)
    (hdt : ∀ w, Ok_ b w → Calls Tryd.prog 67 #[.int .i64 (n : Int), .int .i64 part.size] w fun e w' => e = .returned (.string d) ∧ Below w.heap.size w w') (hO : Ok_ b w) :
    Calls Tryd.prog 64 #[.string s] w fun e w' => e = .returned (.tuple #[.int .i64 (n : Int), .int .i64 part.size, .bool (d.toList == s.toList)]) ∧ Below w.heap.size w w' := by
  have hcv : ∀ W, (convert 9 55 (.string (uns ++ part))).run Tryd.prog W = .ok (.slice (some ⟨W.heap.size, 0, none⟩) (uns ++ part).size (grownCap W (uns ++ part).size 0 5)) (Lib.bytesWorld W 5 (uns ++ part)) := fun W => Lib.run_convert_string_bytes (P := Tryd.prog) W 9 55 5 (uns ++ part) (u := .string) Tryd.underlying9 Tryd.underlying55 Tryd.underlying5
  have hB : ∀ W, ∀ j, j < (uns ++ part).size → (Lib.bytesWorld W 5 (uns ++ part)).cell? ⟨W.heap.size, j, none⟩ = some (.int .u8 ((uns ++ part).data.toList.getD j 0).toNat) := fun W j hj => Lib.bytesWorld_cell W 5 (uns ++ part) j hj
  have hbel : ∀ W, Below W.heap.size W (Lib.bytesWorld W 5 (uns ++ part)) := fun W => Lib.bytesWorld_below W 5 (uns ++ part)
  obtain ⟨Bw, hBw⟩ : ∃ Bw, Bw = fun W => Lib.bytesWorld W 5 (uns ++ part) := ⟨_, rfl⟩
  obtain ⟨gc, hgc⟩ : ∃ gc : World → Nat, gc = fun W => grownCap W (uns ++ part).size 0 5 := ⟨_, rfl⟩
  have hcv' : ∀ W, (convert 9 55 (.string (uns ++ part))).run Tryd.prog W = .ok (.slice (some ⟨W.heap.size, 0, none⟩) (uns ++ part).size (gc W)) (Bw W) := fun W => by rw [hBw, hgc]; exact hcv W
  have hB' : ∀ W, ∀ j, j < (uns ++ part).size → (Bw W).cell? ⟨W.heap.size, j, none⟩ = some (.int .u8 ((uns ++ part).data.toList.getD j 0).toNat) := fun W => by rw [hBw]; exact hB W
  have hbel' : ∀ W, Below W.heap.size W (Bw W) := fun W => by rw [hBw]; exact hbel W
  clear hcv hB hbel hBw hgc
  generalize hcc : uns ++ part = c at *
  have HC := Lib.hid hcc
  have HN := Lib.hid hn
  have HD := Lib.hid hd
  have HB := Lib.hid hB'
  have HL := Lib.hid hbel'
  have hsl : c.size ≤ 18 := hl
  clear hn hd hB' hbel'
  go_enter Tryd.func64, Tryd.ntmps64
  go_wp2_with (first | (go_at_call 39; refine (hcut _ hO).mono ?_; rintro e w1 ⟨rfl, hB1⟩) | (go_at_call 42; refine (htrim _).mono ?_; rintro e w2 ⟨rfl, hB2⟩) | (go_at_call 31; refine (hwithin _).mono ?_; rintro e w3 ⟨rfl, hD3⟩) | (go_at_call 43; refine (htr _).mono ?_; rintro e w4 ⟨rfl, hB4⟩))
  have hB4' := HB.out w4
  have hL4 := HL.out w4
  generalize Bw w4 = W1 at *
  generalize gc w4 = g4 at *
  have HB4 := Lib.hid hB4'
  have HL4 := Lib.hid hL4
  have HB1 := Lib.hid hB1
  have HB2 := Lib.hid hB2
  have HD3 := Lib.hid hD3
  have HB4x := Lib.hid hB4
  clear hB4' hL4 hB1 hB2 hD3 hB4
  have HS := Lib.hid (show c.size = c.data.toList.length from by show c.data.size = _; rw [Array.length_toList])
  go_loop [49, 10] (fun vi vn => ∃ (k acc : Nat), k ≤ c.size ∧ vi = .int .i64 k ∧ vn = .int .i64 acc ∧ Hid (val 0 (c.data.toList.take k) = acc)) (fun vi _ => c.size - (RowKit.intOf vi).toNat)
  case atStart => exact ⟨0, 0, Nat.zero_le _, rfl, rfl, rfl⟩
  case round =>
    obtain ⟨k, acc, hk, rfl, rfl, hacc⟩ := hrel
    by_cases hkn : k < c.size
    · obtain ⟨x, hx⟩ : ∃ x, x = c.data.toList.getD k 0 := ⟨_, rfl⟩
      have hxk : c.data.toList[k]? = some x := by
        rw [hx, List.getD, List.getElem?_eq_getElem (by rw [← HS.out]; exact hkn)]
        rfl
      have hc1 : W1.cell? ⟨w4.heap.size, k, none⟩ = some (.int .u8 x.toNat) := by rw [hx]; exact HB4.out k hkn
      have hxd : isD x = true := by
        have := HD.out
        rw [List.all_eq_true] at this
        exact this x (List.mem_of_getElem? hxk)
      have h48 : 48 ≤ x.toNat ∧ x.toNat ≤ 57 := by simpa [isD] using hxd
      have hlt : acc < 1000000000000000000 := by rw [← hacc.out]; exact val_take_lt _ _ HD.out (by omega)
      have hlt2 := val_take_lt c.data.toList (k + 1) HD.out (by omega)
      have hnext : val 0 (c.data.toList.take (k + 1)) = 10 * acc + (x.toNat - 48) := by rw [val_take hxk, hacc.out]; rfl
      rw [hnext] at hlt2
      have HX := Lib.hid hnext
      have hlo := h48.1
      have hhi := h48.2
      clear hx hxk hnext hxd h48
      go_wp2
      go_round
      case rel => exact ⟨k + 1, 10 * acc + (x.toNat - 48), by omega, by go_num, by first | go_num | (congr 1; omega), HX⟩
      case measure => simp [RowKit.intOf]; omega
    · have hke : k = c.size := by omega
      subst hke
      have hfin : acc = n := by
        have h1 := hacc.out
        rw [List.take_of_length_le (by have := HS.out; omega), HN.out] at h1
        exact h1.symm
      subst hfin
      have hDT : ∀ w5, Below w.heap.size w w5 → Calls Tryd.prog 67 #[.int .i64 acc, .int .i64 part.size] w5 fun e w' => e = .returned (.string d) ∧ Below w5.heap.size w5 w' := fun w5 hb => hdt w5 (okd_ hO hb)
      have hbW : Below w.heap.size w W1 := (((HB1.out.trans (HB2.out.mono HB1.out.size)).trans (HD3.out.below.mono (Nat.le_trans HB1.out.size HB2.out.size))).trans (HB4x.out.mono (Nat.le_trans HB1.out.size (Nat.le_trans HB2.out.size HD3.out.below.size)))).trans (HL4.out.mono (Nat.le_trans HB1.out.size (Nat.le_trans HB2.out.size (Nat.le_trans HD3.out.below.size HB4x.out.size))))
      have HDT := hDT _ hbW
      have HBW := Lib.hid hbW
      skip
      go_wp2_with (first | (go_at_call 67; refine HDT.mono ?_; rintro e w6 ⟨rfl, hB6⟩))
      go_ret3
      exact ⟨rfl, HBW.out.trans (hB6.mono HBW.out.size)⟩
set_option maxRecDepth 100000 in
set_option maxHeartbeats 1000000 in
theorem rd_yes2 {b : Bool} (s whole part uns t d : ByteArray) (n : Nat) (point : Bool) (w : World)
    (hcut : ∀ w, Ok_ b w → Calls Tryd.prog 39 #[.string s, .string ⟨#[46]⟩] w fun e w' => e = .returned (.tuple #[.string whole, .string part, .bool point]) ∧ Below w.heap.size w w')
    (htrim : ∀ w, Calls Tryd.prog 42 #[.string whole, .string ⟨#[45]⟩] w fun e w' => e = .returned (.string uns) ∧ Below w.heap.size w w')
    (hwithin : ∀ w, Calls Tryd.prog 31 #[.int .i64 uns.size, .int .i64 1, .int .i64 9] w fun e w' => e = .returned (.bool true) ∧ Drawn0 w w')
    (hcat : 9223372036854775807 < uns.size + part.size ↔ False) (htr : ∀ w, Calls Tryd.prog 43 #[.string (uns ++ part), .string ⟨#[48, 49, 50, 51, 52, 53, 54, 55, 56, 57]⟩] w fun e w' => e = .returned (.string t) ∧ Below w.heap.size w w')
    (hn18 : n < 1000000000000000000) (hn : val 0 (uns ++ part).data.toList = n) (hd : (uns ++ part).data.toList.all isD = true) (hl : (uns ++ part).size ≤ 18)
    (f1 : (point = decide (0 < part.size)) = True) (f1x : (point == decide (0 < part.size)) = true) (f2 : decide (9 < (part.size : Int)) = false) (f2x : ((part.size : Int) ≤ 9) = True) (f2y : (9 < (part.size : Int)) = False) (f3 : (t.toList == []) = true) (f4 : (uns.toList == whole.toList) = false)
    (hdt : ∀ w, Ok_ b w → Calls Tryd.prog 67 #[.int .i64 (-(n : Int)), .int .i64 part.size] w fun e w' => e = .returned (.string d) ∧ Below w.heap.size w w') (hO : Ok_ b w) :
    Calls Tryd.prog 64 #[.string s] w fun e w' => e = .returned (.tuple #[.int .i64 (-(n : Int)), .int .i64 part.size, .bool (d.toList == s.toList)]) ∧ Below w.heap.size w w' := by
  have hcv : ∀ W, (convert 9 55 (.string (uns ++ part))).run Tryd.prog W = .ok (.slice (some ⟨W.heap.size, 0, none⟩) (uns ++ part).size (grownCap W (uns ++ part).size 0 5)) (Lib.bytesWorld W 5 (uns ++ part)) := fun W => Lib.run_convert_string_bytes (P := Tryd.prog) W 9 55 5 (uns ++ part) (u := .string) Tryd.underlying9 Tryd.underlying55 Tryd.underlying5
  have hB : ∀ W, ∀ j, j < (uns ++ part).size → (Lib.bytesWorld W 5 (uns ++ part)).cell? ⟨W.heap.size, j, none⟩ = some (.int .u8 ((uns ++ part).data.toList.getD j 0).toNat) := fun W j hj => Lib.bytesWorld_cell W 5 (uns ++ part) j hj
  have hbel : ∀ W, Below W.heap.size W (Lib.bytesWorld W 5 (uns ++ part)) := fun W => Lib.bytesWorld_below W 5 (uns ++ part)
  obtain ⟨Bw, hBw⟩ : ∃ Bw, Bw = fun W => Lib.bytesWorld W 5 (uns ++ part) := ⟨_, rfl⟩
  obtain ⟨gc, hgc⟩ : ∃ gc : World → Nat, gc = fun W => grownCap W (uns ++ part).size 0 5 := ⟨_, rfl⟩
  have hcv' : ∀ W, (convert 9 55 (.string (uns ++ part))).run Tryd.prog W = .ok (.slice (some ⟨W.heap.size, 0, none⟩) (uns ++ part).size (gc W)) (Bw W) := fun W => by rw [hBw, hgc]; exact hcv W
  have hB' : ∀ W, ∀ j, j < (uns ++ part).size → (Bw W).cell? ⟨W.heap.size, j, none⟩ = some (.int .u8 ((uns ++ part).data.toList.getD j 0).toNat) := fun W => by rw [hBw]; exact hB W
  have hbel' : ∀ W, Below W.heap.size W (Bw W) := fun W => by rw [hBw]; exact hbel W
  clear hcv hB hbel hBw hgc
  generalize hcc : uns ++ part = c at *
  have HC := Lib.hid hcc
  have HN := Lib.hid hn
  have HD := Lib.hid hd
  have HB := Lib.hid hB'
  have HL := Lib.hid hbel'
  have hsl : c.size ≤ 18 := hl
  clear hn hd hB' hbel'
  go_enter Tryd.func64, Tryd.ntmps64
  go_wp2_with (first | (go_at_call 39; refine (hcut _ hO).mono ?_; rintro e w1 ⟨rfl, hB1⟩) | (go_at_call 42; refine (htrim _).mono ?_; rintro e w2 ⟨rfl, hB2⟩) | (go_at_call 31; refine (hwithin _).mono ?_; rintro e w3 ⟨rfl, hD3⟩) | (go_at_call 43; refine (htr _).mono ?_; rintro e w4 ⟨rfl, hB4⟩))
  have hB4' := HB.out w4
  have hL4 := HL.out w4
  generalize Bw w4 = W1 at *
  generalize gc w4 = g4 at *
  have HB4 := Lib.hid hB4'
  have HL4 := Lib.hid hL4
  have HB1 := Lib.hid hB1
  have HB2 := Lib.hid hB2
  have HD3 := Lib.hid hD3
  have HB4x := Lib.hid hB4
  clear hB4' hL4 hB1 hB2 hD3 hB4
  have HS := Lib.hid (show c.size = c.data.toList.length from by show c.data.size = _; rw [Array.length_toList])
  go_loop [49, 10] (fun vi vn => ∃ (k acc : Nat), k ≤ c.size ∧ vi = .int .i64 k ∧ vn = .int .i64 acc ∧ Hid (val 0 (c.data.toList.take k) = acc)) (fun vi _ => c.size - (RowKit.intOf vi).toNat)
  case atStart => exact ⟨0, 0, Nat.zero_le _, rfl, rfl, rfl⟩
  case round =>
    obtain ⟨k, acc, hk, rfl, rfl, hacc⟩ := hrel
    by_cases hkn : k < c.size
    · obtain ⟨x, hx⟩ : ∃ x, x = c.data.toList.getD k 0 := ⟨_, rfl⟩
      have hxk : c.data.toList[k]? = some x := by
        rw [hx, List.getD, List.getElem?_eq_getElem (by rw [← HS.out]; exact hkn)]
        rfl
      have hc1 : W1.cell? ⟨w4.heap.size, k, none⟩ = some (.int .u8 x.toNat) := by rw [hx]; exact HB4.out k hkn
      have hxd : isD x = true := by
        have := HD.out
        rw [List.all_eq_true] at this
        exact this x (List.mem_of_getElem? hxk)
      have h48 : 48 ≤ x.toNat ∧ x.toNat ≤ 57 := by simpa [isD] using hxd
      have hlt : acc < 1000000000000000000 := by rw [← hacc.out]; exact val_take_lt _ _ HD.out (by omega)
      have hlt2 := val_take_lt c.data.toList (k + 1) HD.out (by omega)
      have hnext : val 0 (c.data.toList.take (k + 1)) = 10 * acc + (x.toNat - 48) := by rw [val_take hxk, hacc.out]; rfl
      rw [hnext] at hlt2
      have HX := Lib.hid hnext
      have hlo := h48.1
      have hhi := h48.2
      clear hx hxk hnext hxd h48
      go_wp2
      go_round
      case rel => exact ⟨k + 1, 10 * acc + (x.toNat - 48), by omega, by go_num, by first | go_num | (congr 1; omega), HX⟩
      case measure => simp [RowKit.intOf]; omega
    · have hke : k = c.size := by omega
      subst hke
      have hfin : acc = n := by
        have h1 := hacc.out
        rw [List.take_of_length_le (by have := HS.out; omega), HN.out] at h1
        exact h1.symm
      subst hfin
      have hDT : ∀ w5, Below w.heap.size w w5 → Calls Tryd.prog 67 #[.int .i64 (-(acc : Int)), .int .i64 part.size] w5 fun e w' => e = .returned (.string d) ∧ Below w5.heap.size w5 w' := fun w5 hb => hdt w5 (okd_ hO hb)
      have hbW : Below w.heap.size w W1 := (((HB1.out.trans (HB2.out.mono HB1.out.size)).trans (HD3.out.below.mono (Nat.le_trans HB1.out.size HB2.out.size))).trans (HB4x.out.mono (Nat.le_trans HB1.out.size (Nat.le_trans HB2.out.size HD3.out.below.size)))).trans (HL4.out.mono (Nat.le_trans HB1.out.size (Nat.le_trans HB2.out.size (Nat.le_trans HD3.out.below.size HB4x.out.size))))
      have HDT := hDT _ hbW
      have HBW := Lib.hid hbW
      have hneg : wrap64 (-(acc : Int)) = -(acc : Int) := wrap_small (by omega) (by omega)
      go_wp2_with (first | (go_at_call 67; refine HDT.mono ?_; rintro e w6 ⟨rfl, hB6⟩))
      go_ret3
      exact ⟨rfl, HBW.out.trans (hB6.mono HBW.out.size)⟩
end Go.Proofs.YtoncbpohjdackaaDoor.TX
