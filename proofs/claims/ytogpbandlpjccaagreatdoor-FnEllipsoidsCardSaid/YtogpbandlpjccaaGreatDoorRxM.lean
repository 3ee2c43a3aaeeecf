/- Functions that are handed lists, and only read them. -/
import Derived.Test.YtogpbandlpjccaaGreatDoorRxG
set_option linter.unusedSimpArgs false
set_option linter.unusedVariables false
namespace Go.RX
open Go.RowKit
inductive Arg where
 | v (x : Value)
 | l (z : Value) (e : TypeId) (rows : List Value)
 | p (c : List Value) (t : TypeId)
def argBlocks : List Arg → LH
 | [] => []
 | .v _ :: r => argBlocks r
 | .l z e rows :: r => (lstC rows false z, e) :: argBlocks r
 | .p c t :: r => (⟨c⟩, t) :: argBlocks r
def argVals : Nat → List Arg → List Value
 | _, [] => []
 | k, .v x :: r => x :: argVals k r
 | k, .l .. :: r => hdrV k :: argVals (k + 1) r
 | k, .p .. :: r => .pointer (some ⟨k, 0, none⟩) :: argVals (k + 1) r
def Stand (σ : LH) : List Arg → List Value → Prop
 | [], [] => True
 | .v x :: as, y :: ys => (y = x ∧ plain x = true) ∧ Stand σ as ys
 | .l z e rows :: as, y :: ys => (∃ b s l c rows' g, y = .slice (some ⟨b, 0, some s⟩) l c ∧ σ[b]? = some (lstC rows' g z, e) ∧ inOrder rows' g = rows) ∧ Stand σ as ys
 | .p c t :: as, y :: ys => (∃ b, y = .pointer (some ⟨b, 0, none⟩) ∧ σ[b]? = some (⟨c⟩, t) ∧ isN ⟨c⟩ = true ∧ ∀ x ∈ c, plain x = true) ∧ Stand σ as ys
 | _, _ => False
theorem Lies.cons {q : Nat → Pl} {σ : LH} {w : World} {b : Blk} {p : Pl} (h : Lies q σ w)
  (h1 : isN b.1 = true → (∃ k, p.adr = some k ∧ w.heap[k]? = some (.cells b.1 b.2 (0, 0))) ∧ ∀ v ∈ b.1.toList, plain v = true ∧ v.oneCell' = true)
  (h2 : ∀ rows g z, b.1 = lstC rows g z → Lst p z (inOrder rows g) g b.2 w)
  (hp : ∀ (i : Nat) (c : Array Value) (t : TypeId), σ[i]? = some (c, t) → isN c = true → ∀ v ∈ c.toList, plain v = true) :
  Lies (fun j => match j with | 0 => p | j + 1 => q j) (b :: σ) w := by
 have hid : ∀ (c : Array Value) (β : Nat → Pl), (∀ v ∈ c.toList, plain v = true) → c.map (rl β) = c := fun c β hc => by
  conv => rhs; rw [← Array.map_id c]
  exact Array.map_congr_left fun x hx => rl_plain (hc x (by simpa using hx))
 refine ⟨fun i c t hi hn => ?_, fun i c t hi hn v hv => ?_, fun i rows g z t hi => ?_⟩
 ·cases i with
  | zero =>
   simp only [List.getElem?_cons_zero, Option.some.injEq] at hi
   subst hi
   obtain ⟨⟨k, q1, q2⟩, q3⟩ := h1 hn
   exact ⟨k, q1, by rw [hid _ _ fun v hv => (q3 v hv).1]; exact q2⟩
  | succ i =>
   simp only [List.getElem?_cons_succ] at hi
   obtain ⟨k, q1, q2⟩ := h.blk i c t hi hn
   refine ⟨k, q1, ?_⟩
   rw [hid c _ (hp i c t hi hn)] at q2 ⊢
   exact q2
 ·cases i with
  | zero =>
   simp only [List.getElem?_cons_zero, Option.some.injEq] at hi
   subst hi
   have := (h1 hn).2 v hv
   exact ⟨plain_inn this.1, this.2⟩
  | succ i =>
   simp only [List.getElem?_cons_succ] at hi
   exact ⟨plain_inn (hp i c t hi hn v hv), (h.sc i c t hi hn v hv).2⟩
 ·cases i with
  | zero =>
   simp only [List.getElem?_cons_zero, Option.some.injEq] at hi
   subst hi
   exact h2 rows g z rfl
  | succ i =>
   simp only [List.getElem?_cons_succ] at hi
   exact h.lst i rows g z t hi
theorem argBlocks_plain : ∀ (as : List Arg) (xs : List Value) (σ : LH), Stand σ as xs → ∀ (i : Nat) (c : Array Value) (t : TypeId), (argBlocks as)[i]? = some (c, t) → isN c = true → ∀ v ∈ c.toList, plain v = true := by
 intro as
 induction as with
 | nil => intro xs σ _ i c t h; simp [argBlocks] at h
 | cons a as ih =>
  intro xs σ hs i c t h hn
  cases xs with
  | nil => cases a <;> simp [Stand] at hs
  | cons y ys =>
   cases a with
   | v y => exact ih ys σ hs.2 i c t h hn
   | l z e rows =>
    cases i with
    | zero =>
     simp only [argBlocks, List.getElem?_cons_zero, Option.some.injEq, Prod.mk.injEq] at h
     rw [← h.1] at hn
     simp [isN, lstC] at hn
    | succ i => simp only [argBlocks, List.getElem?_cons_succ] at h; exact ih ys σ hs.2 i c t h hn
   | p c' t' =>
    cases i with
    | zero =>
     simp only [argBlocks, List.getElem?_cons_zero, Option.some.injEq, Prod.mk.injEq] at h
     obtain ⟨⟨b, _, _, _, h4⟩, _⟩ := hs
     rw [← h.1]
     exact h4
    | succ i => simp only [argBlocks, List.getElem?_cons_succ] at h; exact ih ys σ hs.2 i c t h hn
theorem Stand.place {σ : LH} {β : Nat → Pl} {w : World} (hl : Lies β σ w) (hw : Within β σ w) : ∀ (as : List Arg) (xs : List Value), Stand σ as xs →
  ∃ (q : Nat → Pl), (∀ (k : Nat) (β0 : Nat → Pl), (∀ j, j < (argBlocks as).length → β0 (k + j) = q j) → (argVals k as).map (rl β0) = xs.map (rl β)) ∧ Lies q (argBlocks as) w ∧ Within q (argBlocks as) w := by
 intro as
 induction as with
 | nil =>
  intro xs h
  cases xs with
  | nil => exact ⟨fun _ => ⟨none, none, 0, 0, 0⟩, fun _ _ _ => rfl, ⟨fun i c t hi => by simp [argBlocks] at hi, fun i c t hi => by simp [argBlocks] at hi, fun i rows g z t hi => by simp [argBlocks] at hi⟩, fun i hi => by simp [argBlocks] at hi⟩
  | cons y ys => simp [Stand] at h
 | cons a as ih =>
  intro xs h
  cases xs with
  | nil => cases a <;> simp [Stand] at h
  | cons y ys =>
   cases a with
   | v x =>
    obtain ⟨⟨rfl, hp⟩, hr⟩ := h
    obtain ⟨q, h1, h2, h3⟩ := ih ys hr
    refine ⟨q, fun k β0 hb => ?_, h2, h3⟩
    simp only [argVals, List.map_cons]
    rw [h1 k β0 hb, rl_plain hp, rl_plain hp]
   | l z e rows =>
    obtain ⟨⟨b, s, l, c, rows', g, rfl, hσ, hio⟩, hr⟩ := h
    obtain ⟨q, h1, h2, h3⟩ := ih ys hr
    have hL := hl.lst b rows' g z e hσ
    rw [hio] at hL
    refine ⟨fun j => match j with | 0 => β b | j + 1 => q j, fun k β0 hb => ?_, h2.cons (fun hn => by simp [isN, lstC] at hn) (fun rows2 g2 z2 he => ?_) (argBlocks_plain as ys σ hr), fun i hi k hk => ?_⟩
    ·simp only [argVals, List.map_cons]
     rw [h1 (k + 1) β0 fun j hj => by
      have := hb (j + 1) (by simp only [argBlocks, List.length_cons]; omega)
      rw [show k + 1 + j = k + (j + 1) by omega]
      exact this]
     have h0 := hb 0 (by simp [argBlocks])
     simp only [Nat.add_zero] at h0
     simp [hdrV, rl, mvS, h0]
    ·simp only [lstC, Array.mk.injEq, List.cons.injEq, Value.tuple.injEq, Value.bool.injEq, true_and, and_true] at he
     obtain ⟨rfl, rfl, rfl⟩ := he
     refine ⟨hL.len, hL.row, hL.szp, hL.lc, hL.szz, ?_, fun hg => by cases hg⟩
     rcases hL.lay with ⟨q1, q2, _⟩ | q1
     ·exact .inl ⟨q1, q2, fun hg => by cases hg⟩
     ·exact .inr q1
    ·cases i with
     | zero => exact hw b (List.getElem?_eq_some_iff.1 hσ).1 k hk
     | succ i => exact h3 i (by simp only [argBlocks, List.length_cons] at hi; omega) k hk
   | p c t =>
    obtain ⟨⟨b, rfl, hσ, hn, hp⟩, hr⟩ := h
    obtain ⟨q, h1, h2, h3⟩ := ih ys hr
    obtain ⟨kb, b1, b2⟩ := hl.blk b ⟨c⟩ t hσ hn
    have hsc := hl.sc b ⟨c⟩ t hσ hn
    have hcm : (⟨c⟩ : Array Value).map (rl β) = ⟨c⟩ := by
     conv => rhs; rw [← Array.map_id (⟨c⟩ : Array Value)]
     exact Array.map_congr_left fun x hx => rl_plain (hp x (by simpa using hx))
    rw [hcm] at b2
    refine ⟨fun j => match j with | 0 => β b | j + 1 => q j, fun k β0 hb => ?_, h2.cons (fun _ => ⟨⟨kb, b1, b2⟩, fun v hv => ⟨hp v hv, (hsc v hv).2⟩⟩) (fun rows2 g2 z2 he => ?_) (argBlocks_plain as ys σ hr), fun i hi k hk => ?_⟩
    ·simp only [argVals, List.map_cons]
     rw [h1 (k + 1) β0 fun j hj => by
      have := hb (j + 1) (by simp only [argBlocks, List.length_cons]; omega)
      rw [show k + 1 + j = k + (j + 1) by omega]
      exact this]
     have h0 := hb 0 (by simp [argBlocks])
     simp only [Nat.add_zero] at h0
     simp [rl, mv, h0]
    ·simp only [] at he
     rw [he] at hn
     simp [isN, lstC] at hn
    ·cases i with
     | zero => exact hw b (List.getElem?_eq_some_iff.1 hσ).1 k hk
     | succ i => exact h3 i (by simp only [argBlocks, List.length_cons] at hi; omega) k hk
theorem argVals_inn : ∀ (as : List Arg) (k : Nat) (xs : List Value) (σ : LH), Stand σ as xs → ∀ x ∈ argVals k as, inn (k + (argBlocks as).length) x = true := by
 intro as
 induction as with
 | nil => intro k xs σ _ x hx; simp [argVals] at hx
 | cons a as ih =>
  intro k xs σ h x hx
  cases xs with
  | nil => cases a <;> simp [Stand] at h
  | cons y ys =>
   cases a with
   | v u =>
    simp only [argVals, List.mem_cons] at hx
    rcases hx with rfl | hx
    ·exact plain_inn h.1.2
    ·exact ih k ys σ h.2 x hx
   | l z e rows =>
    simp only [argVals, List.mem_cons] at hx
    rcases hx with rfl | hx
    ·simp [hdrV, inn, argBlocks]
    ·have := ih (k + 1) ys σ h.2 x hx
     rw [show k + 1 + (argBlocks as).length = k + (argBlocks (.l z e rows :: as)).length by simp [argBlocks]; omega] at this
     exact this
   | p c t =>
    simp only [argVals, List.mem_cons] at hx
    rcases hx with rfl | hx
    ·simp [inn, argBlocks]
    ·have := ih (k + 1) ys σ h.2 x hx
     rw [show k + 1 + (argBlocks as).length = k + (argBlocks (.p c t :: as)).length by simp [argBlocks]; omega] at this
     exact this
def GivesA (P : Program) (g : FuncId) (as : List Arg) (v : Value) : Prop := Gives P g (argVals 0 as) (argBlocks as) v (argBlocks as)
theorem GivesA.stand {P : Program} {g : FuncId} {as : List Arg} {v : Value} (h : GivesA P g as v) (hv : plain v = true) {σ : LH} {xs : List Value} (hs : Stand σ as xs) : Gives P g xs σ v σ := by
 refine ⟨h.1, fun β w _ hl hwi _ => ?_⟩
 obtain ⟨q, h1, h2, h3⟩ := hs.place hl hwi
 have := h.2 q w trivial h2 h3 (fun x hx => by have := argVals_inn as 0 xs σ hs x hx; rwa [Nat.zero_add] at this)
 rw [h1 0 q fun j _ => by rw [Nat.zero_add]] at this
 refine this.mono ?_
 rintro en w' ⟨β', rfl, _, hp⟩
 refine ⟨β, by rw [rl_plain hv, rl_plain hv], plain_inn hv, ?_⟩
 exact (Hp.start hl hwi).past hp.below
theorem givesA_L {P : Program} (hm : P.follows .mixedOrders = true) (es : List (Entry P)) {g : FuncId} {fn : Func} (N : Nat) (ls : Option (List Nat)) (Λ : Lam) {as : List Arg} {v : Value}
  (hf : P.funcs[g]? = some fn) (hname : (fn.name == "runtime.NumGoroutine") = false) (hL : ∀ c, fn.body = some c → LamOk P (tab es) (argBlocks as).length fn.ntmps N ls Λ (loopsOf c))
  (h : run1 P (tab es) N ls Λ fn (argVals 0 as) (argBlocks as) = some (v, argBlocks as)) : GivesA P g as v := gives hm (fun _ => tab_ok es) hf hname hL h
def zEqL : List Value → List Value → Bool
 | [], [] => true
 | .int k n :: a, .int k' n' :: b => (decide (k = k') && decide (n = n')) && zEqL a b
 | _, _ => false
theorem zEqL_eq : ∀ {a b : List Value}, zEqL a b = true → a = b
 | [], [], _ => rfl
 | .int k n :: a, .int k' n' :: b, h => by
  simp only [zEqL, Bool.and_eq_true, decide_eq_true_eq] at h
  obtain ⟨⟨rfl, rfl⟩, h⟩ := h
  rw [zEqL_eq h]
 | [], _ :: _, h => by simp [zEqL] at h
 | .int _ _ :: _, [], h => by simp [zEqL] at h
 | x :: _, y :: _, h => by
  cases x <;> first | (simp [zEqL] at h; done) | skip
  cases y <;> first | (simp [zEqL] at h; done) | skip
  simp only [zEqL, Bool.and_eq_true, decide_eq_true_eq] at h
  obtain ⟨⟨rfl, rfl⟩, h⟩ := h
  rw [zEqL_eq h]
def zEq : Value → Value → Bool
 | .int k n, .int k' n' => decide (k = k') && decide (n = n')
 | .agg a, .agg b => zEqL a.toList b.toList
 | .string a, .string b => decide (a.data.toList = b.data.toList)
 | _, _ => false
theorem zEq_eq {a b : Value} (h : zEq a b = true) : a = b := by
 unfold zEq at h
 split at h
 ·simp only [Bool.and_eq_true, decide_eq_true_eq] at h
  rw [h.1, h.2]
 ·rename_i x y
  have := zEqL_eq h
  congr 1
  exact Array.ext' this
 ·rename_i x y
  congr 1
  have := of_decide_eq_true h
  cases x; cases y
  simp only [ByteArray.mk.injEq]
  exact Array.ext' this
 ·simp at h
structure ACod (α : Type) where
 enc : α → Arg
 dec : LH → Value → Option α
 ok : ∀ σ v a (as : List Arg) (ys : List Value), dec σ v = some a → Stand σ as ys → Stand σ (enc a :: as) (v :: ys)
def aV {α : Type} (c : Cod α) : ACod α where
 enc a := .v (c.enc a)
 dec _ v := c.dec v
 ok σ v a as ys h hs := ⟨⟨c.ok _ _ h, c.plain a⟩, hs⟩
def aL (z : Value) (e : TypeId) : ACod (List Value) where
 enc l := .l z e l
 dec σ v := match v with
  | .slice (some ⟨b, 0, some _⟩) _ _ => (match σ[b]? with
   | some (⟨[.tuple ⟨rows⟩, .bool g, z']⟩, e') => (match zEq z' z && Nat.beq e' e with
    | true => some (inOrder rows g)
    | false => none)
   | _ => none)
  | _ => none
 ok σ v a as ys h hs := by
  split at h
  case h_2 => simp at h
  rename_i b s l c
  split at h
  case h_2 => simp at h
  rename_i rows g z' e' hσ
  split at h
  case h_2 => simp at h
  rename_i hz
  simp only [Bool.and_eq_true] at hz
  simp only [Option.some.injEq] at h
  subst h
  refine ⟨⟨b, s, l, c, rows, g, rfl, ?_, rfl⟩, hs⟩
  rw [← zEq_eq hz.1, ← Nat.eq_of_beq_eq_true hz.2]
  exact hσ
theorem stand0 {σ : LH} : Stand σ [] [] := trivial
def aP {α : Type} (c : Cod α) (t : TypeId) (cells : α → List Value) (hc : ∀ a, c.enc a = .agg ⟨cells a⟩) (hn : ∀ a, isN ⟨cells a⟩ = true) (hp : ∀ a, ∀ x ∈ cells a, RX.plain x = true) : ACod α where
 enc a := .p (cells a) t
 dec σ v := match v with
  | .pointer (some ⟨b, 0, none⟩) => (match σ[b]? with
   | some (cs, t') => (match Nat.beq t' t with
    | true => c.dec (.agg cs)
    | false => none)
   | none => none)
  | _ => none
 ok σ v a as ys h hs := by
  split at h
  case h_2 => simp at h
  rename_i b
  split at h
  case h_2 => simp at h
  rename_i cs t' hσ
  split at h
  case h_2 => simp at h
  rename_i ht
  have he := c.ok _ _ h
  rw [hc a] at he
  simp only [Value.agg.injEq] at he
  refine ⟨⟨b, rfl, ?_, hn a, hp a⟩, hs⟩
  rw [← he, ← Nat.eq_of_beq_eq_true ht]
  exact hσ
theorem aP_ext {α : Type} {c : Cod α} {t : TypeId} {cells : α → List Value} {hc : ∀ a, c.enc a = .agg ⟨cells a⟩} {hn : ∀ a, isN ⟨cells a⟩ = true} {hp : ∀ a, ∀ x ∈ cells a, RX.plain x = true} {σ bs : LH} {v : Value} {a : α} (h : (aP c t cells hc hn hp).dec σ v = some a) : (aP c t cells hc hn hp).dec (σ ++ bs) v = some a := by
 simp only [aP] at h ⊢
 split at h
 case h_2 => simp at h
 split at h
 case h_2 => simp at h
 rename_i hσ
 simp only [getElem?_ext (bs := bs) hσ]
 exact h
def entryP2 {P : Program} {α β ρ : Type} (ca : Cod α) (c : Cod β) (t : TypeId) (cells : β → List Value) (hc : ∀ a, c.enc a = .agg ⟨cells a⟩) (hn : ∀ a, isN ⟨cells a⟩ = true) (hp : ∀ a, ∀ x ∈ cells a, RX.plain x = true) (cr : Cod ρ) (g : FuncId) (f : α → β → ρ)
  (h : ∀ a b, GivesA P g [(aV ca).enc a, (aP c t cells hc hn hp).enc b] (cr.enc (f a b))) : Entry P where
 g := g
 free := true
 mono _ R m args σ K r hh := by
  split at hh
  case h_2 => simp at hh
  rename_i x y
  split at hh
  case h_2 => simp at hh
  rename_i a b ha hb
  refine ⟨cr.enc (f a b), fun bs S K' => ?_⟩
  have hb' := aP_ext (bs := bs) hb
  simp only [ha, hb']
 f _ _ args σ K := match args with
  | [x, y] => (match ca.dec x, (aP c t cells hc hn hp).dec σ y with
   | some a, some b => K (cr.enc (f a b)) σ true
   | _, _ => none)
  | _ => none
 ok W hT R m args σ K r hh := by
  split at hh
  case h_2 => simp at hh
  rename_i x y
  split at hh
  case h_2 => simp at hh
  rename_i a b ha hb
  refine ⟨_, _, _, hh, fun S K' => by simp only [ha, hb], Or.inl ?_⟩
  exact ((h a b).stand (cr.plain _) ((aV ca).ok _ _ _ _ _ ha ((aP c t cells hc hn hp).ok _ _ _ _ _ hb stand0))).wide trivial
def entryA1 {P : Program} {T : Prem} {α ρ : Type} (ca : ACod α) (c : Cod ρ) (g : FuncId) (f : α → ρ) (p : α → Bool) (h : ∀ a, p a = true → GivesA P g [ca.enc a] (c.enc (f a))) : EntryU P T where
 g := g
 free := false
 mono h := by cases h
 f _ _ args σ K := match args with
  | [x] => (match ca.dec σ x with
   | some a => bif p a then K (c.enc (f a)) σ true else none
   | none => none)
  | _ => none
 ok W hT R m args σ K r hh := by
  split at hh
  case h_2 => simp at hh
  rename_i x
  split at hh
  case h_2 => simp at hh
  rename_i a ha
  cases hpa : p a with
  | false => rw [hpa] at hh; simp at hh
  | true =>
  rw [hpa] at hh
  refine ⟨_, _, _, hh, fun S K' => by simp only [ha, hpa, cond_true], Or.inl ?_⟩
  exact ((h a hpa).stand (c.plain _) (ca.ok _ _ _ _ _ ha stand0)).wide trivial
def entryA2 {P : Program} {T : Prem} {α β ρ : Type} (ca : ACod α) (cb : ACod β) (c : Cod ρ) (g : FuncId) (f : α → β → ρ) (p : α → β → Bool) (h : ∀ a b, p a b = true → GivesA P g [ca.enc a, cb.enc b] (c.enc (f a b))) : EntryU P T where
 g := g
 free := false
 mono h := by cases h
 f _ _ args σ K := match args with
  | [x, y] => (match ca.dec σ x, cb.dec σ y with
   | some a, some b => bif p a b then K (c.enc (f a b)) σ true else none
   | _, _ => none)
  | _ => none
 ok W hT R m args σ K r hh := by
  split at hh
  case h_2 => simp at hh
  rename_i x y
  split at hh
  case h_2 => simp at hh
  rename_i a b ha hb
  cases hpa : p a b with
  | false => rw [hpa] at hh; simp at hh
  | true =>
  rw [hpa] at hh
  refine ⟨_, _, _, hh, fun S K' => by simp only [ha, hb, hpa, cond_true], Or.inl ?_⟩
  exact ((h a b hpa).stand (c.plain _) (ca.ok _ _ _ _ _ ha (cb.ok _ _ _ _ _ hb stand0))).wide trivial
def El.cells (e : El) : List Value := [.int .i64 e.a, .int .i64 e.num, .int .i64 e.den]
theorem El.cells_eq (e : El) : cEl.enc e = .agg ⟨e.cells⟩ := rfl
theorem El.cells_n (e : El) : isN ⟨e.cells⟩ = true := rfl
theorem El.cells_p (e : El) : ∀ x ∈ e.cells, plain x = true := fun x hx => by
 simp only [El.cells, List.mem_cons, List.not_mem_nil, or_false] at hx
 rcases hx with rfl | rfl | rfl <;> rfl
end Go.RX
