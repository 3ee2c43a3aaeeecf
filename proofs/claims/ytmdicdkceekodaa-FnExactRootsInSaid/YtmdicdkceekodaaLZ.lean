/- The law of the search for all roots answers yes. -/
import Derived.Test.YtmdicdkceekodaaXR2
import Derived.Test.YtmdicdkceekodaaRE1
set_option linter.unusedVariables false
set_option linter.unusedSimpArgs false
namespace Go.Proofs.Ytmdicdkceekodaa.TX
open Go.RowKit Go.Proofs.YtmdicdkceekodaaW.PrintWords Go.Proofs.YtmdicdkceekodaaW.PrintLast Go.Proofs.YtmdicdkceekodaaW.PrintMore
theorem wrap_small {x : Int} (h0 : -9223372036854775808 ≤ x) (h1 : x ≤ 9223372036854775807) : wrap64 x = x := by unfold wrap64; omega
theorem ev_of_all {α : Type} {g : Nat → Option α} {r : α} (h : ∀ k, g (k + 1) = some r) : Ev g r := Ev.step (f := fun _ => some r) h (Ev.now r)
theorem rd_at32 (xs : List S32) (i : Nat) (h : i < xs.length) : rd_T32 xs (i : Int) = xs[i] := by
 unfold rd_T32; simp [List.getD, h]
def conv (x : S32) : S35 := ⟨x.f0, x.f1⟩
theorem toS_loop (l : List S32) (hl : l.length ≤ 1048576) (r : List S35) : ∀ (rest pre : List S32) (acc : List S35), l = pre ++ rest → acc.length = l.length → acc.take pre.length = pre.map conv → r = l.map conv →
  Ev (fun k => laws_toIntervalS.l0 k l acc (pre.length : Nat)) r := by
 intro rest
 induction rest with
 | nil =>
  intro pre acc hp ha ht hr
  rw [List.append_nil] at hp
  subst hp
  refine ev_of_all fun k => ?_
  simp only [laws_toIntervalS.l0]
  rw [if_neg (by omega), hr, ← ht, List.take_of_length_le (by omega)]
 | cons b rest ih =>
  intro pre acc hp ha ht hr
  have hi : pre.length < l.length := by rw [hp]; simp
  have hb : l[pre.length] = b := by simp [hp]
  refine Ev.step (f := fun k => laws_toIntervalS.l0 k l (acc.set pre.length (conv b)) (((pre ++ [b]).length : Nat) : Int)) (fun k => ?_) (ih (pre ++ [b]) _ (by rw [hp]; simp) (by simp [ha]) ?_ hr)
  ·simp only [laws_toIntervalS.l0, laws_toInterval.f]
   rw [if_pos (by omega), if_pos (by omega), rd_at32 l _ hi, hb, Option.bind_some, if_pos (by omega), wrap_small (by omega) (by omega)]
   simp only [Int.toNat_natCast, List.length_append, List.length_singleton]
   rfl
  ·rw [List.length_append, List.length_singleton, List.map_append, ← ht, List.map_singleton]
   have hacc : pre.length < acc.length := by omega
   rw [List.take_succ_eq_append_getElem (by simp; omega)]
   congr 1
   ·rw [List.take_set_of_le (by omega)]
   ·simp
theorem toS_ev (l : List S32) (hl : l.length ≤ 1048576) : Ev (fun k => laws_toIntervalS.f k l) (l.map conv) := by
 have h := toS_loop l hl (l.map conv) l [] (List.replicate l.length z35) rfl (by simp) (by simp) rfl
 refine Ev.congr (fun k => ?_) h
 unfold laws_toIntervalS.f
 simp only [Int.toNat_natCast]
 rw [if_pos (by omega), if_pos (by omega)]
 rfl
theorem rd_nat (xs : List S35) (i : Nat) : rd_T35 xs (i : Int) = xs.getD i z35 := by
 unfold rd_T35; rw [Int.toNat_natCast]
theorem eqS_loop (l : List S35) (hl : l.length ≤ 2000000) : ∀ m i, i + m = l.length → Ev (fun k => laws_eqIntervalS.l0 k l l (i : Nat)) true := by
 intro m
 induction m with
 | zero =>
  intro i hi
  refine ev_of_all fun k => ?_
  simp only [laws_eqIntervalS.l0]
  rw [if_neg (by omega)]
 | succ m ih =>
  intro i hi
  refine Ev.step (fun k => ?_) (ih (i + 1) (by omega))
  simp only [laws_eqIntervalS.l0, laws_eqInterval.f]
  rw [if_pos (by omega), if_pos (by omega), if_pos (by omega), if_pos trivial, if_pos trivial, Option.bind_some, if_pos rfl, wrap_small (by omega) (by omega)]
  rfl
theorem eqS_ev (l : List S35) (hl : l.length ≤ 2000000) : Ev (fun k => laws_eqIntervalS.f k l l) true := by
 refine Ev.congr (fun k => ?_) (eqS_loop l hl l.length 0 (by omega))
 unfold laws_eqIntervalS.f
 rw [if_pos rfl]
 rfl
def marks (x : Int) : Nat → List S35
 | 0 => []
 | n + 1 => ⟨x, x + 1⟩ :: marks (x + 2) n
theorem getD_mid (pre rest : List S35) (b : S35) : (pre ++ b :: rest).getD pre.length z35 = b := by simp [List.getD]
theorem mark_loop : ∀ (rest pre : List S35) (x : Int), 0 ≤ x → x ≤ 1000000000 → pre.length + rest.length ≤ 2000000 → x + 2 * (rest.length : Int) ≤ 1000000000 →
  Ev (fun k => laws_markIntervalS.l0 k (pre ++ rest) x (pre.length : Nat)) (x + 2 * (rest.length : Int), pre ++ marks x rest.length) := by
 intro rest
 induction rest with
 | nil =>
  intro pre x h0 h1 hl hx
  refine ev_of_all fun k => ?_
  simp only [laws_markIntervalS.l0]
  rw [if_neg (by simp)]
  simp [marks]
 | cons b rest ih =>
  intro pre x h0 h1 hl hx
  simp only [List.length_cons] at hl hx
  have e := ih (pre ++ [⟨x, x + 1⟩]) (x + 2) (by omega) (by omega) (by simp; omega) (by omega)
  rw [List.append_assoc, List.singleton_append] at e
  have er : (x + 2 + 2 * (rest.length : Int), (pre ++ [(⟨x, x + 1⟩ : S35)]) ++ marks (x + 2) rest.length) = (x + 2 * ((b :: rest).length : Int), pre ++ marks x (b :: rest).length) := by
   simp only [List.length_cons, marks, List.append_assoc, List.singleton_append]
   congr 1
   push_cast
   omega
  rw [er] at e
  refine Ev.step (fun k => ?_) e
  simp only [laws_markIntervalS.l0]
  rw [if_pos (by simp; omega), if_pos (by omega), Option.bind_some, wrap_small (x := x + 1) (by omega) (by omega), wrap_small (x := x + 1 + 1) (by omega) (by omega), wrap_small (x := (pre.length : Int) + 1) (by omega) (by omega), rd_nat]
  simp only [Int.toNat_natCast, List.set_append_right _ _ (Nat.le_refl _), Nat.sub_self, List.set_cons_zero]
  rw [rd_nat, getD_mid]
  simp only [List.length_append, List.length_singleton, Int.natCast_add, Int.natCast_one]
  rw [show x + 1 + 1 = x + 2 by omega]
theorem mark_ev (l : List S35) (x : Int) (hl : l.length ≤ 2000000) (h0 : 0 ≤ x) (h1 : x ≤ 500000000) : Ev (fun k => laws_markIntervalS.f k l x) (x + 2 * (l.length : Int), marks x l.length) :=
 mark_loop l [] x h0 (by omega) (by simpa using hl) (by omega)
theorem held_loop : ∀ (n : Nat) (pre : List S35) (x : Int), 0 ≤ x → pre.length + n ≤ 2000000 → x + 2 * (n : Int) ≤ 1000000000 →
  Ev (fun k => laws_heldIntervalS.l0 k (pre ++ marks x n) x (pre.length : Nat)) (x + 2 * (n : Int)) := by
 intro n
 induction n with
 | zero =>
  intro pre x h0 hl hx
  refine ev_of_all fun k => ?_
  simp only [laws_heldIntervalS.l0]
  rw [if_neg (by simp [marks])]
  simp
 | succ n ih =>
  intro pre x h0 hl hx
  have e := ih (pre ++ [⟨x, x + 1⟩]) (x + 2) (by omega) (by simp; omega) (by omega)
  rw [List.append_assoc, List.singleton_append, show x + 2 + 2 * (n : Int) = x + 2 * ((n + 1 : Nat) : Int) by omega] at e
  refine Ev.step (fun k => ?_) e
  rw [show marks x (n + 1) = ⟨x, x + 1⟩ :: marks (x + 2) n from rfl]
  simp only [laws_heldIntervalS.l0]
  rw [rd_nat, getD_mid]
  rw [if_pos (by simp; omega), if_pos (by omega), if_pos rfl, wrap_small (x := x + 1) (by omega) (by omega), if_pos rfl, wrap_small (by omega) (by omega), wrap_small (by omega) (by omega)]
  simp only [List.length_append, List.length_singleton, Int.natCast_add, Int.natCast_one]
  rw [show x + 1 + 1 = x + 2 by omega]
theorem held_ev (n : Nat) (x : Int) (hn : n ≤ 2000000) (h0 : 0 ≤ x) (h1 : x ≤ 500000000) : Ev (fun k => laws_heldIntervalS.f k (marks x n) x) (x + 2 * (n : Int)) :=
 held_loop n [] x h0 (by simpa using hn) (by omega)
theorem sz_pos (l : List S32) (a : Int) (h : (l.length : Int) ≤ a) (ha : a ≤ 1048576) : laws_szIntervalS.f l a = some (a - l.length) := by
 unfold laws_szIntervalS.f
 rw [wrap_small (by omega) (by omega), if_neg (by omega)]
theorem sz_neg (l : List S32) (a : Int) (h : a < (l.length : Int)) (h0 : 0 ≤ a) (hl : l.length ≤ 9223372036854775807) (ha : a ≤ 1048576) : laws_szIntervalS.f l a = some (-1) := by
 unfold laws_szIntervalS.f
 rw [wrap_small (by omega) (by omega), if_pos (by omega)]
theorem few_found (l : List Value) (x : Go.RX.Iv) (d : Int) : (srootsIn l x d).1.length ≤ 65 ∧ (srootsIn l x d).2.1.length ≤ 65 := by
 unfold srootsIn
 have h : (sfound l x d).1.length + (sfound l x d).2.length ≤ 65 := ssrch_few l (Go.G880.spec_PolyDerivative l).1.reverse 70 x d [] [] (by decide)
 cases !Go.G880.spec_l09Ok l || !Go.G880.spec_l04Ok x with
 | true => simp only [cond_true, cond_false, List.length_nil]; omega
 | false =>
 cases !Go.G880.spec_l00In d 0 60 with
 | true => simp only [cond_true, cond_false, List.length_nil]; omega
 | false =>
 cases decide (64 < (sfound l x d).1.length + (sfound l x d).2.length) with
 | true => simp only [cond_true, cond_false, List.length_nil]; omega
 | false => simp only [cond_false]; omega
theorem lawRootsIn (l0 : List S32) (a1_0 a1_1 a2 : Int) (b0 : l0.length ≤ 9223372036854775807) : ∃ k, laws_FnExactRootsIn.f k l0 a1_0 a1_1 a2 = some true := by
 by_cases s0 : 1048576 < l0.length
 ·refine ⟨0, ?_⟩
  unfold laws_FnExactRootsIn.f
  rw [sz_neg l0 _ (by omega) (by omega) b0 (by omega), Option.bind_some, if_pos (by omega)]
 have cA : (l0.map conv).length = l0.length := by simp
 generalize hA : l0.map conv = A at cA
 have hsp : spec_RootsIn.f A a1_0 a1_1 a2 = some ((srootsIn (rowsI A) ⟨a1_0, a1_1⟩ a2).1.map toS, (srootsIn (rowsI A) ⟨a1_0, a1_1⟩ a2).2.1.map toS, (srootsIn (rowsI A) ⟨a1_0, a1_1⟩ a2).2.2) := by
  unfold spec_RootsIn.f
  rw [if_pos (by omega)]
 have him : impl_RootsIn.f A a1_0 a1_1 a2 = some ((srootsIn (rowsI A) ⟨a1_0, a1_1⟩ a2).1.map toS, (srootsIn (rowsI A) ⟨a1_0, a1_1⟩ a2).2.1.map toS, (srootsIn (rowsI A) ⟨a1_0, a1_1⟩ a2).2.2) := by
  unfold impl_RootsIn.f
  rw [if_pos (by omega), rootsIn_eq (rowsI A) (by rw [rowsI_len]; omega)]
 obtain ⟨g1, g2⟩ := few_found (rowsI A) ⟨a1_0, a1_1⟩ a2
 have hu : ((srootsIn (rowsI A) ⟨a1_0, a1_1⟩ a2).1.map toS).length ≤ 65 := by rw [List.length_map]; exact g1
 have hv : ((srootsIn (rowsI A) ⟨a1_0, a1_1⟩ a2).2.1.map toS).length ≤ 65 := by rw [List.length_map]; exact g2
 generalize (srootsIn (rowsI A) ⟨a1_0, a1_1⟩ a2).1.map toS = u at hsp him hu
 generalize (srootsIn (rowsI A) ⟨a1_0, a1_1⟩ a2).2.1.map toS = v at hsp him hv
 generalize (srootsIn (rowsI A) ⟨a1_0, a1_1⟩ a2).2.2 = c at hsp him
 obtain ⟨K1, t0⟩ := toS_ev l0 (by omega)
 obtain ⟨K2, q0⟩ := eqS_ev A (by omega)
 obtain ⟨K3, q1⟩ := eqS_ev u (by omega)
 obtain ⟨K4, q2⟩ := eqS_ev v (by omega)
 obtain ⟨K5, m0⟩ := mark_ev A 1 (by omega) (by omega) (by omega)
 obtain ⟨K6, m1⟩ := mark_ev u 1 (by omega) (by omega) (by omega)
 obtain ⟨K7, m2⟩ := mark_ev v (1 + 2 * (u.length : Int)) (by omega) (by omega) (by omega)
 obtain ⟨K8, h1⟩ := held_ev u.length 1 (by omega) (by omega) (by omega)
 obtain ⟨K9, h2⟩ := held_ev v.length (1 + 2 * (u.length : Int)) (by omega) (by omega) (by omega)
 simp only [hA] at t0
 simp only at q0 q1 q2 m0 m1 m2 h1 h2
 have ti : laws_toInterval.f a1_0 a1_1 = some (a1_0, a1_1) := rfl
 generalize hN : K1 + K2 + K3 + K4 + K5 + K6 + K7 + K8 + K9 = N
 have f2 : laws_FnExactRootsIn.j2 (N + 1) (marks 1 u.length) (marks (1 + 2 * (u.length : Int)) v.length) (1 + 2 * (u.length : Int) + 2 * (v.length : Int)) false = some true := by
  simp only [laws_FnExactRootsIn.j2]
  rw [if_neg (by simp), h1 N (by omega), Option.bind_some, if_neg (by omega), h2 N (by omega), Option.bind_some, if_neg (by omega), if_pos rfl]
 have f1 : laws_FnExactRootsIn.j1 (N + 2) l0 a2 u v c u v false a1_0 a1_1 = some true := by
  simp only [laws_FnExactRootsIn.j1]
  rw [if_neg (by simp), m1 (N + 1) (by omega), Option.bind_some, m2 (N + 1) (by omega), Option.bind_some, h1 (N + 1) (by omega), Option.bind_some, if_neg (by omega), h2 (N + 1) (by omega), Option.bind_some, if_neg (by omega), if_pos rfl,
   t0 (N + 1) (by omega), Option.bind_some, ti, Option.bind_some, him, Option.bind_some, q1 (N + 1) (by omega), Option.bind_some, if_pos rfl, q2 (N + 1) (by omega), Option.bind_some, if_pos rfl]
  simp only [bne_self_eq_false]
  exact f2
 have f0 : laws_FnExactRootsIn.j0 (N + 3) l0 a2 u v c A u v c false a1_0 a1_1 = some true := by
  simp only [laws_FnExactRootsIn.j0]
  rw [if_neg (by simp), t0 (N + 2) (by omega), Option.bind_some, q0 (N + 2) (by omega), Option.bind_some, if_pos rfl, m0 (N + 2) (by omega), Option.bind_some, if_neg (by simp only; omega), q1 (N + 2) (by omega), Option.bind_some, if_pos rfl, q2 (N + 2) (by omega), Option.bind_some, if_pos rfl]
  simp only [bne_self_eq_false]
  exact f1
 refine ⟨N + 3, ?_⟩
 unfold laws_FnExactRootsIn.f
 rw [sz_pos l0 _ (by omega) (by omega), Option.bind_some, if_neg (by omega), t0 (N + 3) (by omega), Option.bind_some, ti, Option.bind_some, hsp, Option.bind_some, Option.bind_some, Option.bind_some, him, Option.bind_some, q1 (N + 3) (by omega), Option.bind_some, if_pos rfl, q2 (N + 3) (by omega), Option.bind_some, if_pos rfl]
 simp only [bne_self_eq_false]
 exact f0
end Go.Proofs.Ytmdicdkceekodaa.TX
