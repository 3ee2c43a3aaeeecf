/- The walk of readDigits. -/
import Derived.Test.YtogpbandlpjccaaGreatDoorN1
import Derived.Test.YtogpbandlpjccaaGreatDoorQP
import Derived.Lib.SlTrimSet
set_option linter.unusedVariables false
set_option linter.unusedSimpArgs false
namespace Go.Proofs.YtogpbandlpjccaaGreatDoor.TX
open Go.RowKit Go.TX Go.Proofs.YtogpbandlpjccaaGreatDoorW.PrintWords Go.Proofs.YtogpbandlpjccaaGreatDoorW.PrintLast
set_option maxRecDepth 100000 in
theorem rd_no1 {b : Bool} (s whole part uns : ByteArray) (point : Bool) (w : World)
    (hcut : ∀ w, Ok_ b w → Calls Tryz.prog 74 #[.string s, .string ⟨#[46]⟩] w fun e w' => e = .returned (.tuple #[.string whole, .string part, .bool point]) ∧ Below w.heap.size w w')
    (htrim : ∀ w, Calls Tryz.prog 80 #[.string whole, .string ⟨#[45]⟩] w fun e w' => e = .returned (.string uns) ∧ Below w.heap.size w w')
    (f1 : (point = decide (0 < part.size)) = False) (f1x : (point == decide (0 < part.size)) = false) (hO : Ok_ b w) :
    Calls Tryz.prog 138 #[.string s] w fun e w' => e = .returned (.tuple #[.int .i64 0, .int .i64 0, .bool false]) ∧ Below w.heap.size w w' := by
  go_enter Tryz.func138, Tryz.ntmps138
  go_wp2_with (first | (go_at_call 74; refine (hcut _ hO).mono ?_; rintro e w1 ⟨rfl, hB1⟩) | (go_at_call 80; refine (htrim _).mono ?_; rintro e w2 ⟨rfl, hB2⟩))
  go_ret3
  exact ⟨rfl, hB1.trans (hB2.mono hB1.size)⟩
set_option maxRecDepth 100000 in
theorem rd_no2 {b : Bool} (s whole part uns : ByteArray) (point : Bool) (w : World)
    (hcut : ∀ w, Ok_ b w → Calls Tryz.prog 74 #[.string s, .string ⟨#[46]⟩] w fun e w' => e = .returned (.tuple #[.string whole, .string part, .bool point]) ∧ Below w.heap.size w w')
    (htrim : ∀ w, Calls Tryz.prog 80 #[.string whole, .string ⟨#[45]⟩] w fun e w' => e = .returned (.string uns) ∧ Below w.heap.size w w')
    (f1 : (point = decide (0 < part.size)) = True) (f1x : (point == decide (0 < part.size)) = true) (f2 : decide (9 < (part.size : Int)) = true) (f2x : ((part.size : Int) ≤ 9) = False) (f2y : (9 < (part.size : Int)) = True) (hO : Ok_ b w) :
    Calls Tryz.prog 138 #[.string s] w fun e w' => e = .returned (.tuple #[.int .i64 0, .int .i64 0, .bool false]) ∧ Below w.heap.size w w' := by
  go_enter Tryz.func138, Tryz.ntmps138
  go_wp2_with (first | (go_at_call 74; refine (hcut _ hO).mono ?_; rintro e w1 ⟨rfl, hB1⟩) | (go_at_call 80; refine (htrim _).mono ?_; rintro e w2 ⟨rfl, hB2⟩))
  go_ret3
  exact ⟨rfl, hB1.trans (hB2.mono hB1.size)⟩
set_option maxRecDepth 100000 in
theorem rd_no3 {b : Bool} (s whole part uns : ByteArray) (point : Bool) (w : World)
    (hcut : ∀ w, Ok_ b w → Calls Tryz.prog 74 #[.string s, .string ⟨#[46]⟩] w fun e w' => e = .returned (.tuple #[.string whole, .string part, .bool point]) ∧ Below w.heap.size w w')
    (htrim : ∀ w, Calls Tryz.prog 80 #[.string whole, .string ⟨#[45]⟩] w fun e w' => e = .returned (.string uns) ∧ Below w.heap.size w w')
    (hwithin : ∀ w, Calls Tryz.prog 78 #[.int .i64 uns.size, .int .i64 1, .int .i64 9] w fun e w' => e = .returned (.bool false) ∧ Drawn0 w w')
    (f1 : (point = decide (0 < part.size)) = True) (f1x : (point == decide (0 < part.size)) = true) (f2 : decide (9 < (part.size : Int)) = false) (f2x : ((part.size : Int) ≤ 9) = True) (f2y : (9 < (part.size : Int)) = False) (hO : Ok_ b w) :
    Calls Tryz.prog 138 #[.string s] w fun e w' => e = .returned (.tuple #[.int .i64 0, .int .i64 0, .bool false]) ∧ Below w.heap.size w w' := by
  go_enter Tryz.func138, Tryz.ntmps138
  go_wp2_with (first | (go_at_call 74; refine (hcut _ hO).mono ?_; rintro e w1 ⟨rfl, hB1⟩) | (go_at_call 80; refine (htrim _).mono ?_; rintro e w2 ⟨rfl, hB2⟩) | (go_at_call 78; refine (hwithin _).mono ?_; rintro e w3 ⟨rfl, hD3⟩))
  go_ret3
  exact ⟨rfl, (hB1.trans (hB2.mono hB1.size)).trans (hD3.below.mono (Nat.le_trans hB1.size hB2.size))⟩
set_option maxRecDepth 100000 in
theorem rd_no4 {b : Bool} (s whole part uns t : ByteArray) (point : Bool) (w : World)
    (hcut : ∀ w, Ok_ b w → Calls Tryz.prog 74 #[.string s, .string ⟨#[46]⟩] w fun e w' => e = .returned (.tuple #[.string whole, .string part, .bool point]) ∧ Below w.heap.size w w')
    (htrim : ∀ w, Calls Tryz.prog 80 #[.string whole, .string ⟨#[45]⟩] w fun e w' => e = .returned (.string uns) ∧ Below w.heap.size w w')
    (hwithin : ∀ w, Calls Tryz.prog 78 #[.int .i64 uns.size, .int .i64 1, .int .i64 9] w fun e w' => e = .returned (.bool true) ∧ Drawn0 w w')
    (hcat : 9223372036854775807 < uns.size + part.size ↔ False) (htr : ∀ w, Calls Tryz.prog 81 #[.string (uns ++ part), .string ⟨#[48, 49, 50, 51, 52, 53, 54, 55, 56, 57]⟩] w fun e w' => e = .returned (.string t) ∧ Below w.heap.size w w')
    (f1 : (point = decide (0 < part.size)) = True) (f1x : (point == decide (0 < part.size)) = true) (f2 : decide (9 < (part.size : Int)) = false) (f2x : ((part.size : Int) ≤ 9) = True) (f2y : (9 < (part.size : Int)) = False) (f3 : (t.toList == []) = false) (hO : Ok_ b w) :
    Calls Tryz.prog 138 #[.string s] w fun e w' => e = .returned (.tuple #[.int .i64 0, .int .i64 0, .bool false]) ∧ Below w.heap.size w w' := by
  go_enter Tryz.func138, Tryz.ntmps138
  go_wp2_with (first | (go_at_call 74; refine (hcut _ hO).mono ?_; rintro e w1 ⟨rfl, hB1⟩) | (go_at_call 80; refine (htrim _).mono ?_; rintro e w2 ⟨rfl, hB2⟩) | (go_at_call 78; refine (hwithin _).mono ?_; rintro e w3 ⟨rfl, hD3⟩) | (go_at_call 81; refine (htr _).mono ?_; rintro e w4 ⟨rfl, hB4⟩))
  go_ret3
  exact ⟨rfl, ((hB1.trans (hB2.mono hB1.size)).trans (hD3.below.mono (Nat.le_trans hB1.size hB2.size))).trans (hB4.mono (Nat.le_trans hB1.size (Nat.le_trans hB2.size hD3.below.size)))⟩
set_option maxRecDepth 100000 in
set_option maxHeartbeats 1000000 in
theorem rd_yes1 {b : Bool} (s whole part uns t d : ByteArray) (n : Nat) (point : Bool) (w : World)
    (hcut : ∀ w, Ok_ b w → Calls Tryz.prog 74 #[.string s, .string ⟨#[46]⟩] w fun e w' => e = .returned (.tuple #[.string whole, .string part, .bool point]) ∧ Below w.heap.size w w')
    (htrim : ∀ w, Calls Tryz.prog 80 #[.string whole, .string ⟨#[45]⟩] w fun e w' => e = .returned (.string uns) ∧ Below w.heap.size w w')
    (hwithin : ∀ w, Calls Tryz.prog 78 #[.int .i64 uns.size, .int .i64 1, .int .i64 9] w fun e w' => e = .returned (.bool true) ∧ Drawn0 w w')
    (hcat : 9223372036854775807 < uns.size + part.size ↔ False) (htr : ∀ w, Calls Tryz.prog 81 #[.string (uns ++ part), .string ⟨#[48, 49, 50, 51, 52, 53, 54, 55, 56, 57]⟩] w fun e w' => e = .returned (.string t) ∧ Below w.heap.size w w')
    (hn18 : n < 1000000000000000000) (hn : val 0 (uns ++ part).data.toList = n) (hd : (uns ++ part).data.toList.all isD = true) (hl : (uns ++ part).size ≤ 18)
    (f1 : (point = decide (0 < part.size)) = True) (f1x : (point == decide (0 < part.size)) = true) (f2 : decide (9 < (part.size : Int)) = false) (f2x : ((part.size : Int) ≤ 9) = True) (f2y : (9 < (part.size : Int)) = False) (f3 : (t.toList == []) = true) (f4 : (uns.toList == whole.toList) = true)
    (hdt : ∀ w, Ok_ b w → Calls Tryz.prog 196 #[.int .i64 (n : Int), .int .i64 part.size] w fun e w' => e = .returned (.string d) ∧ Below w.heap.size w w') (hO : Ok_ b w) :
    Calls Tryz.prog 138 #[.string s] w fun e w' => e = .returned (.tuple #[.int .i64 (n : Int), .int .i64 part.size, .bool (d.toList == s.toList)]) ∧ Below w.heap.size w w' := by
  have hcv : ∀ W, (convert 9 22 (.string (uns ++ part))).run Tryz.prog W = .ok (.slice (some ⟨W.heap.size, 0, none⟩) (uns ++ part).size (grownCap W (uns ++ part).size 0 5)) (Lib.bytesWorld W 5 (uns ++ part)) := fun W => Lib.run_convert_string_bytes (P := Tryz.prog) W 9 22 5 (uns ++ part) (u := .string) Tryz.underlying9 Tryz.underlying22 Tryz.underlying5
  have hB : ∀ W, ∀ j, j < (uns ++ part).size → (Lib.bytesWorld W 5 (uns ++ part)).cell? ⟨W.heap.size, j, none⟩ = some (.int .u8 ((uns ++ part).data.toList.getD j 0).toNat) := fun W j hj => Lib.bytesWorld_cell W 5 (uns ++ part) j hj
  have hbel : ∀ W, Below W.heap.size W (Lib.bytesWorld W 5 (uns ++ part)) := fun W => Lib.bytesWorld_below W 5 (uns ++ part)
  obtain ⟨Bw, hBw⟩ : ∃ Bw, Bw = fun W => Lib.bytesWorld W 5 (uns ++ part) := ⟨_, rfl⟩
  obtain ⟨gc, hgc⟩ : ∃ gc : World → Nat, gc = fun W => grownCap W (uns ++ part).size 0 5 := ⟨_, rfl⟩
  have hcv' : ∀ W, (convert 9 22 (.string (uns ++ part))).run Tryz.prog W = .ok (.slice (some ⟨W.heap.size, 0, none⟩) (uns ++ part).size (gc W)) (Bw W) := fun W => by rw [hBw, hgc]; exact hcv W
  have hB' : ∀ W, ∀ j, j < (uns ++ part).size → (Bw W).cell? ⟨W.heap.size, j, none⟩ = some (.int .u8 ((uns ++ part).data.toList.getD j 0).toNat) := fun W => by rw [hBw]; exact hB W
  have hbel' : ∀ W, Below W.heap.size W (Bw W) := fun W => by rw [hBw]; exact hbel W
  clear hcv hB hbel hBw hgc
  generalize hcc : uns ++ part = c at *
  have HC := Lib.hid hcc
  have HN := Lib.hid hn
  have HD := Lib.hid hd
  have HB := Lib.hid hB'
  have HL := Lib.hid hbel'
  have hsl : c.size ≤ 18 := hl
  clear hn hd hB' hbel'
  go_enter Tryz.func138, Tryz.ntmps138
  go_wp2_with (first | (go_at_call 74; refine (hcut _ hO).mono ?_; rintro e w1 ⟨rfl, hB1⟩) | (go_at_call 80; refine (htrim _).mono ?_; rintro e w2 ⟨rfl, hB2⟩) | (go_at_call 78; refine (hwithin _).mono ?_; rintro e w3 ⟨rfl, hD3⟩) | (go_at_call 81; refine (htr _).mono ?_; rintro e w4 ⟨rfl, hB4⟩))
  have hB4' := HB.out w4
  have hL4 := HL.out w4
  generalize Bw w4 = W1 at *
  generalize gc w4 = g4 at *
  have HB4 := Lib.hid hB4'
  have HL4 := Lib.hid hL4
  have HB1 := Lib.hid hB1
  have HB2 := Lib.hid hB2
  have HD3 := Lib.hid hD3
  have HB4x := Lib.hid hB4
  clear hB4' hL4 hB1 hB2 hD3 hB4
  have HS := Lib.hid (show c.size = c.data.toList.length from by show c.data.size = _; rw [Array.length_toList])
  go_loop [49, 10] (fun vi vn => ∃ (k acc : Nat), k ≤ c.size ∧ vi = .int .i64 k ∧ vn = .int .i64 acc ∧ Hid (val 0 (c.data.toList.take k) = acc)) (fun vi _ => c.size - (RowKit.intOf vi).toNat)
  case atStart => exact ⟨0, 0, Nat.zero_le _, rfl, rfl, rfl⟩
  case round =>
    obtain ⟨k, acc, hk, rfl, rfl, hacc⟩ := hrel
    by_cases hkn : k < c.size
    · obtain ⟨x, hx⟩ : ∃ x, x = c.data.toList.getD k 0 := ⟨_, rfl⟩
      have hxk : c.data.toList[k]? = some x := by
        rw [hx, List.getD, List.getElem?_eq_getElem (by rw [← HS.out]; exact hkn)]
        rfl
      have hc1 : W1.cell? ⟨w4.heap.size, k, none⟩ = some (.int .u8 x.toNat) := by rw [hx]; exact HB4.out k hkn
      have hxd : isD x = true := by
        have := HD.out
        rw [List.all_eq_true] at this
        exact this x (List.mem_of_getElem? hxk)
      have h48 : 48 ≤ x.toNat ∧ x.toNat ≤ 57 := by simpa [isD] using hxd
      have hlt : acc < 1000000000000000000 := by rw [← hacc.out]; exact val_take_lt _ _ HD.out (by omega)
      have hlt2 := val_take_lt c.data.toList (k + 1) HD.out (by omega)
      have hnext : val 0 (c.data.toList.take (k + 1)) = 10 * acc + (x.toNat - 48) := by rw [val_take hxk, hacc.out]; rfl
      rw [hnext] at hlt2
      have HX := Lib.hid hnext
      have hlo := h48.1
      have hhi := h48.2
      clear hx hxk hnext hxd h48
      go_wp2
      go_round
      case rel => exact ⟨k + 1, 10 * acc + (x.toNat - 48), by omega, by go_num, by first | go_num | (congr 1; omega), HX⟩
      case measure => simp [RowKit.intOf]; omega
    · have hke : k = c.size := by omega
      subst hke
      have hfin : acc = n := by
        have h1 := hacc.out
        rw [List.take_of_length_le (by have := HS.out; omega), HN.out] at h1
        exact h1.symm
      subst hfin
      have hDT : ∀ w5, Below w.heap.size w w5 → Calls Tryz.prog 196 #[.int .i64 acc, .int .i64 part.size] w5 fun e w' => e = .returned (.string d) ∧ Below w5.heap.size w5 w' := fun w5 hb => hdt w5 (okd_ hO hb)
      have hbW : Below w.heap.size w W1 := (((HB1.out.trans (HB2.out.mono HB1.out.size)).trans (HD3.out.below.mono (Nat.le_trans HB1.out.size HB2.out.size))).trans (HB4x.out.mono (Nat.le_trans HB1.out.size (Nat.le_trans HB2.out.size HD3.out.below.size)))).trans (HL4.out.mono (Nat.le_trans HB1.out.size (Nat.le_trans HB2.out.size (Nat.le_trans HD3.out.below.size HB4x.out.size))))
      have HDT := hDT _ hbW
      have HBW := Lib.hid hbW
      skip
      go_wp2_with (first | (go_at_call 196; refine HDT.mono ?_; rintro e w6 ⟨rfl, hB6⟩))
      go_ret3
      exact ⟨rfl, HBW.out.trans (hB6.mono HBW.out.size)⟩
set_option maxRecDepth 100000 in
set_option maxHeartbeats 1000000 in
theorem rd_yes2 {b : Bool} (s whole part uns t d : ByteArray) (n : Nat) (point : Bool) (w : World)
    (hcut : ∀ w, Ok_ b w → Calls Tryz.prog 74 #[.string s, .string ⟨#[46]⟩] w fun e w' => e = .returned (.tuple #[.string whole, .string part, .bool point]) ∧ Below w.heap.size w w')
    (htrim : ∀ w, Calls Tryz.prog 80 #[.string whole, .string ⟨#[45]⟩] w fun e w' => e = .returned (.string uns) ∧ Below w.heap.size w w')
    (hwithin : ∀ w, Calls Tryz.prog 78 #[.int .i64 uns.size, .int .i64 1, .int .i64 9] w fun e w' => e = .returned (.bool true) ∧ Drawn0 w w')
    (hcat : 9223372036854775807 < uns.size + part.size ↔ False) (htr : ∀ w, Calls Tryz.prog 81 #[.string (uns ++ part), .string ⟨#[48, 49, 50, 51, 52, 53, 54, 55, 56, 57]⟩] w fun e w' => e = .returned (.string t) ∧ Below w.heap.size w w')
    (hn18 : n < 1000000000000000000) (hn : val 0 (uns ++ part).data.toList = n) (hd : (uns ++ part).data.toList.all isD = true) (hl : (uns ++ part).size ≤ 18)
    (f1 : (point = decide (0 < part.size)) = True) (f1x : (point == decide (0 < part.size)) = true) (f2 : decide (9 < (part.size : Int)) = false) (f2x : ((part.size : Int) ≤ 9) = True) (f2y : (9 < (part.size : Int)) = False) (f3 : (t.toList == []) = true) (f4 : (uns.toList == whole.toList) = false)
    (hdt : ∀ w, Ok_ b w → Calls Tryz.prog 196 #[.int .i64 (-(n : Int)), .int .i64 part.size] w fun e w' => e = .returned (.string d) ∧ Below w.heap.size w w') (hO : Ok_ b w) :
    Calls Tryz.prog 138 #[.string s] w fun e w' => e = .returned (.tuple #[.int .i64 (-(n : Int)), .int .i64 part.size, .bool (d.toList == s.toList)]) ∧ Below w.heap.size w w' := by
  have hcv : ∀ W, (convert 9 22 (.string (uns ++ part))).run Tryz.prog W = .ok (.slice (some ⟨W.heap.size, 0, none⟩) (uns ++ part).size (grownCap W (uns ++ part).size 0 5)) (Lib.bytesWorld W 5 (uns ++ part)) := fun W => Lib.run_convert_string_bytes (P := Tryz.prog) W 9 22 5 (uns ++ part) (u := .string) Tryz.underlying9 Tryz.underlying22 Tryz.underlying5
  have hB : ∀ W, ∀ j, j < (uns ++ part).size → (Lib.bytesWorld W 5 (uns ++ part)).cell? ⟨W.heap.size, j, none⟩ = some (.int .u8 ((uns ++ part).data.toList.getD j 0).toNat) := fun W j hj => Lib.bytesWorld_cell W 5 (uns ++ part) j hj
  have hbel : ∀ W, Below W.heap.size W (Lib.bytesWorld W 5 (uns ++ part)) := fun W => Lib.bytesWorld_below W 5 (uns ++ part)
  obtain ⟨Bw, hBw⟩ : ∃ Bw, Bw = fun W => Lib.bytesWorld W 5 (uns ++ part) := ⟨_, rfl⟩
  obtain ⟨gc, hgc⟩ : ∃ gc : World → Nat, gc = fun W => grownCap W (uns ++ part).size 0 5 := ⟨_, rfl⟩
  have hcv' : ∀ W, (convert 9 22 (.string (uns ++ part))).run Tryz.prog W = .ok (.slice (some ⟨W.heap.size, 0, none⟩) (uns ++ part).size (gc W)) (Bw W) := fun W => by rw [hBw, hgc]; exact hcv W
  have hB' : ∀ W, ∀ j, j < (uns ++ part).size → (Bw W).cell? ⟨W.heap.size, j, none⟩ = some (.int .u8 ((uns ++ part).data.toList.getD j 0).toNat) := fun W => by rw [hBw]; exact hB W
  have hbel' : ∀ W, Below W.heap.size W (Bw W) := fun W => by rw [hBw]; exact hbel W
  clear hcv hB hbel hBw hgc
  generalize hcc : uns ++ part = c at *
  have HC := Lib.hid hcc
  have HN := Lib.hid hn
  have HD := Lib.hid hd
  have HB := Lib.hid hB'
  have HL := Lib.hid hbel'
  have hsl : c.size ≤ 18 := hl
  clear hn hd hB' hbel'
  go_enter Tryz.func138, Tryz.ntmps138
  go_wp2_with (first | (go_at_call 74; refine (hcut _ hO).mono ?_; rintro e w1 ⟨rfl, hB1⟩) | (go_at_call 80; refine (htrim _).mono ?_; rintro e w2 ⟨rfl, hB2⟩) | (go_at_call 78; refine (hwithin _).mono ?_; rintro e w3 ⟨rfl, hD3⟩) | (go_at_call 81; refine (htr _).mono ?_; rintro e w4 ⟨rfl, hB4⟩))
  have hB4' := HB.out w4
  have hL4 := HL.out w4
  generalize Bw w4 = W1 at *
  generalize gc w4 = g4 at *
  have HB4 := Lib.hid hB4'
  have HL4 := Lib.hid hL4
  have HB1 := Lib.hid hB1
  have HB2 := Lib.hid hB2
  have HD3 := Lib.hid hD3
  have HB4x := Lib.hid hB4
  clear hB4' hL4 hB1 hB2 hD3 hB4
  have HS := Lib.hid (show c.size = c.data.toList.length from by show c.data.size = _; rw [Array.length_toList])
  go_loop [49, 10] (fun vi vn => ∃ (k acc : Nat), k ≤ c.size ∧ vi = .int .i64 k ∧ vn = .int .i64 acc ∧ Hid (val 0 (c.data.toList.take k) = acc)) (fun vi _ => c.size - (RowKit.intOf vi).toNat)
  case atStart => exact ⟨0, 0, Nat.zero_le _, rfl, rfl, rfl⟩
  case round =>
    obtain ⟨k, acc, hk, rfl, rfl, hacc⟩ := hrel
    by_cases hkn : k < c.size
    · obtain ⟨x, hx⟩ : ∃ x, x = c.data.toList.getD k 0 := ⟨_, rfl⟩
      have hxk : c.data.toList[k]? = some x := by
        rw [hx, List.getD, List.getElem?_eq_getElem (by rw [← HS.out]; exact hkn)]
        rfl
      have hc1 : W1.cell? ⟨w4.heap.size, k, none⟩ = some (.int .u8 x.toNat) := by rw [hx]; exact HB4.out k hkn
      have hxd : isD x = true := by
        have := HD.out
        rw [List.all_eq_true] at this
        exact this x (List.mem_of_getElem? hxk)
      have h48 : 48 ≤ x.toNat ∧ x.toNat ≤ 57 := by simpa [isD] using hxd
      have hlt : acc < 1000000000000000000 := by rw [← hacc.out]; exact val_take_lt _ _ HD.out (by omega)
      have hlt2 := val_take_lt c.data.toList (k + 1) HD.out (by omega)
      have hnext : val 0 (c.data.toList.take (k + 1)) = 10 * acc + (x.toNat - 48) := by rw [val_take hxk, hacc.out]; rfl
      rw [hnext] at hlt2
      have HX := Lib.hid hnext
      have hlo := h48.1
      have hhi := h48.2
      clear hx hxk hnext hxd h48
      go_wp2
      go_round
      case rel => exact ⟨k + 1, 10 * acc + (x.toNat - 48), by omega, by go_num, by first | go_num | (congr 1; omega), HX⟩
      case measure => simp [RowKit.intOf]; omega
    · have hke : k = c.size := by omega
      subst hke
      have hfin : acc = n := by
        have h1 := hacc.out
        rw [List.take_of_length_le (by have := HS.out; omega), HN.out] at h1
        exact h1.symm
      subst hfin
      have hDT : ∀ w5, Below w.heap.size w w5 → Calls Tryz.prog 196 #[.int .i64 (-(acc : Int)), .int .i64 part.size] w5 fun e w' => e = .returned (.string d) ∧ Below w5.heap.size w5 w' := fun w5 hb => hdt w5 (okd_ hO hb)
      have hbW : Below w.heap.size w W1 := (((HB1.out.trans (HB2.out.mono HB1.out.size)).trans (HD3.out.below.mono (Nat.le_trans HB1.out.size HB2.out.size))).trans (HB4x.out.mono (Nat.le_trans HB1.out.size (Nat.le_trans HB2.out.size HD3.out.below.size)))).trans (HL4.out.mono (Nat.le_trans HB1.out.size (Nat.le_trans HB2.out.size (Nat.le_trans HD3.out.below.size HB4x.out.size))))
      have HDT := hDT _ hbW
      have HBW := Lib.hid hbW
      have hneg : wrap64 (-(acc : Int)) = -(acc : Int) := wrap_small (by omega) (by omega)
      go_wp2_with (first | (go_at_call 196; refine HDT.mono ?_; rintro e w6 ⟨rfl, hB6⟩))
      go_ret3
      exact ⟨rfl, HBW.out.trans (hB6.mono HBW.out.size)⟩
end Go.Proofs.YtogpbandlpjccaaGreatDoor.TX
/- What readDigits comes to. -/
set_option linter.unusedVariables false
set_option linter.unusedSimpArgs false
namespace Go.Proofs.YtogpbandlpjccaaGreatDoor.TX
open Go.RowKit Go.TX Go.Proofs.YtogpbandlpjccaaGreatDoorW.PrintWords Go.Proofs.YtogpbandlpjccaaGreatDoorW.PrintLast
open Go.Lib
def digs10 : List UInt8 := [48, 49, 50, 51, 52, 53, 54, 55, 56, 57]
theorem contains_digs (b : UInt8) : digs10.contains b = isD b := by
  have key : ∀ n : UInt8, (b == n) = decide (b.toNat = n.toNat) := fun n => by
    by_cases h : b = n
    · subst h; simp
    · rw [beq_eq_false_iff_ne.2 h, decide_eq_false]
      exact fun h' => h (UInt8.toNat_inj.1 h')
  rw [Bool.eq_iff_iff]
  unfold digs10 isD
  simp only [List.contains_cons, key, Bool.or_eq_true, Bool.and_eq_true, decide_eq_true_eq, List.contains_nil]
  simp only [show (48 : UInt8).toNat = 48 from rfl, show (49 : UInt8).toNat = 49 from rfl, show (50 : UInt8).toNat = 50 from rfl, show (51 : UInt8).toNat = 51 from rfl, show (52 : UInt8).toNat = 52 from rfl, show (53 : UInt8).toNat = 53 from rfl, show (54 : UInt8).toNat = 54 from rfl, show (55 : UInt8).toNat = 55 from rfl, show (56 : UInt8).toNat = 56 from rfl, show (57 : UInt8).toNat = 57 from rfl]
  constructor
  · intro h; simp at h; omega
  · intro h; simp; omega
theorem dropWhile_nil {p : UInt8 → Bool} : ∀ {l : List UInt8}, l.dropWhile p = [] → l.all p = true
  | [], _ => rfl
  | b :: l, h => by
    by_cases hb : p b = true
    · rw [List.dropWhile_cons_of_pos hb] at h
      simp [hb, dropWhile_nil h]
    · rw [List.dropWhile_cons_of_neg hb] at h; cases h
theorem dropWhile_all {p : UInt8 → Bool} : ∀ {l : List UInt8}, l.all p = true → l.dropWhile p = []
  | [], _ => rfl
  | b :: l, h => by
    simp only [List.all_cons, Bool.and_eq_true] at h
    rw [List.dropWhile_cons_of_pos h.1, dropWhile_all h.2]
theorem dropWhile_head {p : UInt8 → Bool} : ∀ {l : List UInt8}, (l.dropWhile p).all p = true → l.dropWhile p = []
  | [], _ => rfl
  | b :: l, h => by
    by_cases hb : p b = true
    · rw [List.dropWhile_cons_of_pos hb] at h ⊢; exact dropWhile_head h
    · rw [List.dropWhile_cons_of_neg hb] at h
      simp [hb] at h
theorem trimS_nil (l : List UInt8) : (trimS l digs10 = []) ↔ l.all isD = true := by
  have hp : (fun x => digs10.contains x) = isD := funext contains_digs
  unfold trimS trimLeftS trimRightS
  rw [hp]
  constructor
  · intro h
    have h1 := dropWhile_nil h
    rw [List.all_reverse] at h1
    have h2 := dropWhile_head h1
    have h3 := dropWhile_nil h2
    rwa [List.all_reverse] at h3
  · intro h
    rw [dropWhile_all (l := l.reverse) (by rw [List.all_reverse]; exact h)]
    rfl
theorem unm_len' (l : List UInt8) : (unm l).length ≤ l.length := by
  cases l with
  | nil => exact Nat.le_refl _
  | cons b r => unfold unm; simp only; split <;> simp
theorem cut1_len' (c : UInt8) (l : List UInt8) : (cut1 c l).1.length ≤ l.length ∧ (cut1 c l).2.length ≤ l.length := by
  induction l with
  | nil => simp [cut1]
  | cons b l ih =>
    rw [cut1]
    split
    · simp
    · simp; omega
theorem val_lt18' (l : List UInt8) (h : l.all isD = true) (hl : l.length ≤ 18) : val 0 l < 1000000000000000000 := by
  have := val_lt l 0 h
  have h2 : 10 ^ l.length ≤ 10 ^ 18 := Nat.pow_le_pow_right (by omega) hl
  have h3 : (10 : Nat) ^ 18 = 1000000000000000000 := rfl
  omega
/-- readDigits, on bytes. -/
def readDig (l : List UInt8) : Int × Int × Bool :=
  let whole := (cut1 46 l).1
  let part := (cut1 46 l).2
  let uns := unm whole
  if decide (46 ∈ l) ≠ decide (0 < part.length) then (0, 0, false)
  else if 9 < part.length then (0, 0, false)
  else if ¬ (1 ≤ uns.length ∧ uns.length ≤ 9) then (0, 0, false)
  else if ¬ ((uns ++ part).all isD = true) then (0, 0, false)
  else
    let m : Int := if uns = whole then (val 0 (uns ++ part) : Int) else -(val 0 (uns ++ part) : Int)
    (m, part.length, decide (dt part.length m = l))
theorem ba_eq (a b : List UInt8) : ((bs a).toList == (bs b).toList) = decide (a = b) := by
  rw [bs_list, bs_list]
  by_cases h : a = b
  · subst h; simp
  · rw [decide_eq_false h, beq_eq_false_iff_ne]; exact h
theorem readDigits_ {b : Bool} (l : List UInt8) (h : l.length < 4294967281) (w : World) (hO : Ok_ b w) :
    Calls Tryz.prog 138 #[.string (bs l)] w fun e w' => e = .returned (.tuple #[.int .i64 (readDig l).1, .int .i64 (readDig l).2.1, .bool (readDig l).2.2]) ∧ Below w.heap.size w w' := by
  have hcut : ∀ w, Ok_ b w → Calls Tryz.prog 74 #[.string (bs l), .string ⟨#[46]⟩] w fun e w' => e = .returned (.tuple #[.string (bs (cut1 46 l).1), .string (bs (cut1 46 l).2), .bool (decide (46 ∈ l))]) ∧ Below w.heap.size w w' := fun w hO => by
    have := cut_ (bs l) ⟨#[46]⟩ (by rw [bs_size]; exact h) w hO
    have e := cut_eq 46 l
    simp only [e] at this
    exact this
  have htrim : ∀ w, Calls Tryz.prog 80 #[.string (bs (cut1 46 l).1), .string ⟨#[45]⟩] w fun e w' => e = .returned (.string (bs (unm (cut1 46 l).1))) ∧ Below w.heap.size w w' := fun w => by
    have := trimPrefix_ (bs (cut1 46 l).1) ⟨#[45]⟩ w
    have e := trim_minus (cut1 46 l).1
    simp only [e] at this
    exact this
  have hlen := Nat.le_trans (unm_len' (cut1 46 l).1) (cut1_len' 46 l).1
  have hlen2 := (cut1_len' 46 l).2
  unfold readDig
  simp only
  generalize hwh : (cut1 46 l).1 = whole at *
  generalize hpa : (cut1 46 l).2 = part at *
  generalize hun : unm whole = uns at *
  by_cases c1 : decide (46 ∈ l) ≠ decide (0 < part.length)
  · rw [if_pos c1]
    refine rd_no1 (bs l) (bs whole) (bs part) (bs uns) (decide (46 ∈ l)) w hcut htrim ?_ ?_ hO
    · rw [bs_size]; exact eq_false c1
    · rw [bs_size]; exact beq_eq_false_iff_ne.2 c1
  · rw [if_neg c1]
    have c1' : decide (46 ∈ l) = decide (0 < part.length) := Classical.byContradiction c1
    have f1 : (decide (46 ∈ l) = decide (0 < (bs part).size)) = True := by rw [bs_size]; exact eq_true c1'
    have f1x : (decide (46 ∈ l) == decide (0 < (bs part).size)) = true := by rw [bs_size]; exact beq_iff_eq.2 c1'
    by_cases c2 : 9 < part.length
    · rw [if_pos c2]
      refine rd_no2 (bs l) (bs whole) (bs part) (bs uns) _ w hcut htrim f1 f1x ?_ ?_ ?_ hO
      · rw [bs_size]; exact decide_eq_true (by omega)
      · rw [bs_size]; exact eq_false (by omega)
      · rw [bs_size]; exact eq_true (by omega)
    · rw [if_neg c2]
      have f2 : decide (9 < ((bs part).size : Int)) = false := by rw [bs_size]; exact decide_eq_false (by omega)
      have f2x : (((bs part).size : Int) ≤ 9) = True := by rw [bs_size]; exact eq_true (by omega)
      have f2y : (9 < ((bs part).size : Int)) = False := by rw [bs_size]; exact eq_false (by omega)
      by_cases c3 : 1 ≤ uns.length ∧ uns.length ≤ 9
      · rw [if_neg (fun h => h c3)]
        have hwi : ∀ w, Calls Tryz.prog 78 #[.int .i64 (bs uns).size, .int .i64 1, .int .i64 9] w fun e w' => e = .returned (.bool true) ∧ Drawn0 w w' := fun w =>
          impl_within.calls _ _ _ true w (by unfold impl_within.f; rw [bs_size, if_pos (by omega), decide_eq_true (by omega)])
        have htr : ∀ w, Calls Tryz.prog 81 #[.string (bs uns ++ bs part), .string ⟨#[48, 49, 50, 51, 52, 53, 54, 55, 56, 57]⟩] w fun e w' => e = .returned (.string (bs (trimS (uns ++ part) digs10))) ∧ Below w.heap.size w w' := fun w => by
          rw [bs_append]
          exact trim_ (bs (uns ++ part)) ⟨#[48, 49, 50, 51, 52, 53, 54, 55, 56, 57]⟩ (by rw [bs_size]; simp; omega) (by decide) (by decide) w
        have hcat : 9223372036854775807 < (bs uns).size + (bs part).size ↔ False := ⟨fun h => by rw [bs_size, bs_size] at h; omega, fun h => h.elim⟩
        by_cases c4 : (uns ++ part).all isD = true
        · rw [if_neg (fun h => h c4)]
          have hpl : (uns ++ part).length ≤ 18 := by simp; omega
          have hv := val_lt18' (uns ++ part) c4 hpl
          have f3 : ((bs (trimS (uns ++ part) digs10)).toList == []) = true := by rw [(trimS_nil _).2 c4, bs_list]; rfl
          by_cases c5 : uns = whole
          · rw [if_pos c5]
            obtain ⟨K, hK⟩ := digitsText_ev (val 0 (uns ++ part) : Nat) part.length (by omega) (by rw [Int.natAbs_natCast]; exact hv)
            have hdt : ∀ w, Ok_ b w → Calls Tryz.prog 196 #[.int .i64 ((val 0 (uns ++ part) : Nat) : Int), .int .i64 (bs part).size] w fun e w' => e = .returned (.string (bs (dt part.length (val 0 (uns ++ part) : Nat)))) ∧ Below w.heap.size w w' := fun w hO => by
              rw [bs_size]
              exact impl_digitsText.calls K _ _ _ w hO (hK K (Nat.le_refl _))
            have := rd_yes1 (bs l) (bs whole) (bs part) (bs uns) (bs (trimS (uns ++ part) digs10)) (bs (dt part.length (val 0 (uns ++ part) : Nat))) (val 0 (uns ++ part)) (decide (46 ∈ l)) w hcut htrim hwi hcat htr hv (by rw [bs_append]) (by rw [bs_append]; exact c4) (by rw [bs_append, bs_size]; exact hpl) f1 f1x f2 f2x f2y f3 (by rw [ba_eq, c5]; simp) hdt hO
            rw [ba_eq, bs_size] at this
            exact this
          · rw [if_neg c5]
            obtain ⟨K, hK⟩ := digitsText_ev (-(val 0 (uns ++ part) : Nat) : Int) part.length (by omega) (by rw [Int.natAbs_neg, Int.natAbs_natCast]; exact hv)
            have hdt : ∀ w, Ok_ b w → Calls Tryz.prog 196 #[.int .i64 (-((val 0 (uns ++ part) : Nat) : Int)), .int .i64 (bs part).size] w fun e w' => e = .returned (.string (bs (dt part.length (-(val 0 (uns ++ part) : Nat) : Int)))) ∧ Below w.heap.size w w' := fun w hO => by
              rw [bs_size]
              exact impl_digitsText.calls K _ _ _ w hO (hK K (Nat.le_refl _))
            have := rd_yes2 (bs l) (bs whole) (bs part) (bs uns) (bs (trimS (uns ++ part) digs10)) (bs (dt part.length (-(val 0 (uns ++ part) : Nat) : Int))) (val 0 (uns ++ part)) (decide (46 ∈ l)) w hcut htrim hwi hcat htr hv (by rw [bs_append]) (by rw [bs_append]; exact c4) (by rw [bs_append, bs_size]; exact hpl) f1 f1x f2 f2x f2y f3 (by rw [ba_eq]; exact decide_eq_false c5) hdt hO
            rw [ba_eq, bs_size] at this
            exact this
        · rw [if_pos c4]
          exact rd_no4 (bs l) (bs whole) (bs part) (bs uns) (bs (trimS (uns ++ part) digs10)) _ w hcut htrim hwi hcat htr f1 f1x f2 f2x f2y (by rw [bs_list, beq_eq_false_iff_ne]; exact fun h => c4 ((trimS_nil _).1 h)) hO
      · rw [if_pos c3]
        have hwi : ∀ w, Calls Tryz.prog 78 #[.int .i64 (bs uns).size, .int .i64 1, .int .i64 9] w fun e w' => e = .returned (.bool false) ∧ Drawn0 w w' := fun w =>
          impl_within.calls _ _ _ false w (by
            unfold impl_within.f
            rw [bs_size]
            by_cases c : (uns.length : Int) ≥ 1
            · rw [if_pos c, decide_eq_false (by omega)]
            · rw [if_neg c])
        exact rd_no3 (bs l) (bs whole) (bs part) (bs uns) _ w hcut htrim hwi f1 f1x f2 f2x f2y hO
end Go.Proofs.YtogpbandlpjccaaGreatDoor.TX
