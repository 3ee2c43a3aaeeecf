/- The walk of ReadAngle's function of digits. -/
import Derived.Test.YtogpbandlpjccaaGreatDoorOK
import Derived.Lib.AtoiErrMem
import Derived.Lib.ConvBytes
import Derived.Tactics
import Derived.RowKit3
set_option linter.unusedVariables false
set_option linter.unusedSimpArgs false
namespace Go.Proofs.YtogpbandlpjccaaGreatDoor.TX
open Go.RowKit Go.TX
theorem val_take {l : List UInt8} {k : Nat} {x : UInt8} (h : l[k]? = some x) : val 0 (l.take (k + 1)) = 10 * val 0 (l.take k) + dv x := by
  rw [List.take_add_one, h]
  simp only [Option.toList_some]
  rw [val_append, val_one]
theorem val_take_lt (l : List UInt8) (k : Nat) (hd : l.all isD = true) (hk : k ≤ 18) : val 0 (l.take k) < 1000000000000000000 := by
  have h1 : (l.take k).all isD = true := by
    rw [List.all_eq_true] at hd ⊢
    exact fun x hx => hd x (List.mem_of_mem_take hx)
  have h2 := val_lt (l.take k) 0 h1
  have h3 : (l.take k).length ≤ 18 := by rw [List.length_take]; omega
  have h4 : 10 ^ (l.take k).length ≤ 10 ^ 18 := Nat.pow_le_pow_right (by omega) h3
  have h5 : (10 : Nat) ^ 18 = 1000000000000000000 := rfl
  omega
theorem number_ (s : ByteArray) (hd : s.data.toList.all isD = true) (hl : s.size ≤ 18) (w : World) :
    Calls Tryz.prog 82 #[.string s] w fun e w' => e = .returned (.int .i64 (val 0 s.data.toList : Nat)) ∧ Below w.heap.size w w' := by
  have hcv := Lib.run_convert_string_bytes (P := Tryz.prog) w 9 22 5 s (u := .string) Tryz.underlying9 Tryz.underlying22 Tryz.underlying5
  have hB : ∀ j, j < s.size → (Lib.bytesWorld w 5 s).cell? ⟨w.heap.size, j, none⟩ = some (.int .u8 (s.data.toList.getD j 0).toNat) := fun j hj => Lib.bytesWorld_cell w 5 s j hj
  have hbel : Below w.heap.size w (Lib.bytesWorld w 5 s) := Lib.bytesWorld_below w 5 s
  obtain ⟨W1, hW1⟩ : ∃ W1, W1 = Lib.bytesWorld w 5 s := ⟨_, rfl⟩
  rw [← hW1] at hcv hB hbel
  have HW := Lib.hid hbel
  have HB := Lib.hid hB
  have HD := Lib.hid hd
  have HS := Lib.hid (show s.size = s.data.toList.length from by show s.data.size = _; rw [Array.length_toList])
  clear hW1 hB hd hbel
  go_enter Tryz.func82, Tryz.ntmps82
  go_wp2
  go_loop [9, 3] (fun vi vn => ∃ (k acc : Nat), k ≤ s.size ∧ vi = .int .i64 k ∧ vn = .int .i64 acc ∧ Hid (val 0 (s.data.toList.take k) = acc)) (fun vi _ => s.size - (RowKit.intOf vi).toNat)
  case atStart => exact ⟨0, 0, Nat.zero_le _, rfl, rfl, rfl⟩
  case round =>
    obtain ⟨k, acc, hk, rfl, rfl, hacc⟩ := hrel
    by_cases hkn : k < s.size
    · obtain ⟨x, hx⟩ : ∃ x, x = s.data.toList.getD k 0 := ⟨_, rfl⟩
      have hxk : s.data.toList[k]? = some x := by
        rw [hx, List.getD, List.getElem?_eq_getElem (by rw [← HS.out]; exact hkn)]
        rfl
      have hc1 : W1.cell? ⟨w.heap.size, k, none⟩ = some (.int .u8 x.toNat) := by rw [hx]; exact HB.out k hkn
      have hxd : isD x = true := by
        have := HD.out
        rw [List.all_eq_true] at this
        exact this x (List.mem_of_getElem? hxk)
      have h48 : 48 ≤ x.toNat ∧ x.toNat ≤ 57 := by simpa [isD] using hxd
      have hlt : acc < 1000000000000000000 := by rw [← hacc.out]; exact val_take_lt _ _ HD.out (by omega)
      have hlt2 := val_take_lt s.data.toList (k + 1) HD.out (by omega)
      have hnext : val 0 (s.data.toList.take (k + 1)) = 10 * acc + (x.toNat - 48) := by rw [val_take hxk, hacc.out]; rfl
      rw [hnext] at hlt2
      have HN := Lib.hid hnext
      have hlo := h48.1
      have hhi := h48.2
      clear hx hxk hnext hxd h48
      go_wp2
      go_round
      case rel => exact ⟨k + 1, 10 * acc + (x.toNat - 48), by omega, by go_num, by first | go_num | (congr 1; omega), HN⟩
      case measure => simp [RowKit.intOf]; omega
    · have hke : k = s.size := by omega
      subst hke
      have hfin : val 0 s.data.toList = acc := by
        have h1 := hacc.out
        rwa [List.take_of_length_le (by have := HS.out; omega)] at h1
      have HF := Lib.hid hfin
      clear hfin
      go_wp2
      go_ret
      exact ⟨congrArg (fun n : Nat => Ending.returned (.int .i64 (n : Int))) HF.out.symm, HW.out⟩
end Go.Proofs.YtogpbandlpjccaaGreatDoor.TX
