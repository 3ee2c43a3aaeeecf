/- The law of the latitudes answers yes. -/
import Derived.Test.YtogpbandlpjccaaGreatDoorGL
import Derived.Test.YtogpbandlpjccaaGreatDoorRV
set_option linter.unusedVariables false
namespace Go.Proofs.YtogpbandlpjccaaGreatDoor
open Go Go.RX Go.G880 Go.G880.Re
theorem fnLatitudes_true {d i : List Value} (hpre : (TX.bytesOk d && TX.bytesOk i) = true) : laws_FnLatitudes d i = true := by
 have hp := hpre
 simp only [Bool.and_eq_true] at hp
 have k := at_kind hp.1
 have m := at_kind hp.2
 unfold laws_FnLatitudes
 cases laws_a2Long d i
 case true => rfl
 simp only [cond_false]
 generalize TX.spec_A2Ellipsoid d = e
 generalize spec_LatOf (TX.spec_A2Points i).1 = X
 generalize laws_a2At d 0 6 = a at *
 generalize laws_a2At i 0 6 = b at *
 rw [w64_id (n := 1 + a) (by omega) (by omega), w64_id (n := 1 + b) (by omega) (by omega)]
 obtain ⟨F, K⟩ := kinds (1 + a) e
 rw [lat_odd K X]
 simp only [Bool.not_true, cond_false]
 rw [(named_name (k := 1 + a) (by omega)).1]
 have nn : ((1 + a) != (1 + a)) = false := by simp
 rw [nn, cond_false]
 unfold spec_IsWhole
 cases o : spec_l04Ok (impl_LatitudeI (1 + a) e X)
 ·rfl
 simp only [Bool.not_true, cond_false]
 have il : impl_isLatitude (1 + b) = true := (l00In_iff _ _ _).2 (by omega)
 obtain ⟨q1, q2, q3⟩ := law il e X o
 rw [q1, q2]
 simp only [beq_self_eq_true, cond_true]
 rcases q3 with q3 | ⟨q3, q4⟩
 ·rw [q3]; rfl
 ·rw [q3, q4]; rfl
end Go.Proofs.YtogpbandlpjccaaGreatDoor
