/- All sets of one to four numbers from -4 to 4. -/
import Derived.Test.YtogpbandlpjccaaFG0
import Derived.Test.YtogpbandlpjccaaFG1
import Derived.Test.YtogpbandlpjccaaFG2
import Derived.Test.YtogpbandlpjccaaFG3
namespace Go.G880.Rt
def all9 : List Int := [-4, -3, -2, -1, 0, 1, 2, 3, 4]
theorem mem_subs {s L : List Int} (h : s.Sublist L) : s ∈ subs L := by
 induction h with
 | slnil => simp [subs]
 | cons a _ ih => simp only [subs, List.mem_append]; exact .inr ih
 | cons_cons a _ ih => simp only [subs, List.mem_append, List.mem_map]; exact .inl ⟨_, ih, rfl⟩
theorem all_facts {rs : List Int} (h : rs.Sublist all9) (h1 : 1 ≤ rs.length ∧ rs.length ≤ 4) : facts rs = true := by
 have key : ∀ (p s : List Int), rs = p ++ s → (subs [-2, -1, 0, 1, 2, 3, 4]).all (fun s => chk3 p s) = true → s ∈ subs [-2, -1, 0, 1, 2, 3, 4] → facts rs = true := by
  intro p s e ha hs
  have := List.all_eq_true.1 ha s hs
  rw [chk3, ← e, Nat.ble_eq_true_of_le h1.1, Nat.ble_eq_true_of_le h1.2, Bool.and_self, cond_true] at this
  exact this
 have hm := mem_subs h
 rw [show subs all9 = (subs [-3, -2, -1, 0, 1, 2, 3, 4]).map (-4 :: ·) ++ subs [-3, -2, -1, 0, 1, 2, 3, 4] from rfl, show subs [-3, -2, -1, 0, 1, 2, 3, 4] = (subs [-2, -1, 0, 1, 2, 3, 4]).map (-3 :: ·) ++ subs [-2, -1, 0, 1, 2, 3, 4] from rfl] at hm
 rcases List.mem_append.1 hm with q | q
 ·obtain ⟨t, ht, rfl⟩ := List.mem_map.1 q
  rcases List.mem_append.1 ht with q | q
  ·obtain ⟨u, hu, rfl⟩ := List.mem_map.1 q
   exact key [-4, -3] u rfl facts3 hu
  ·exact key [-4] t rfl facts1 q
 ·rcases List.mem_append.1 q with q | q
  ·obtain ⟨u, hu, rfl⟩ := List.mem_map.1 q
   exact key [-3] u rfl facts2 hu
  ·exact key [] _ rfl facts0 q
end Go.G880.Rt
