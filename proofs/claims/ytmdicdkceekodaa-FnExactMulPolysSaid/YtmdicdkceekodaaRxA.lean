/- A small interpreter for the part of Go that computes with numbers, texts and structs in memory of its own, and the proof that the machine's call does what the interpreter says. -/
import Derived.Orders
import Derived.Below
import Derived.Laws.Sem
import Derived.Laws.Cells
import Derived.Laws.CopyRow
import Derived.Laws.StructEq
import Derived.Tactics
import Derived.KernelRfl
set_option linter.unusedSimpArgs false
set_option linter.unusedVariables false
namespace Go.RX
open Go.RowKit

/-! ### Programs that ask for nothing but the program's text -/
def pv (P : Program) {α : Type} : Sem α → Option α
  | .pure a => some a
  | .program k => pv P (k P)
  | .mark _ k => pv P k
  | _ => none

theorem pv_run {P : Program} {α : Type} (s : Sem α) : ∀ {v : α}, pv P s = some v → ∀ w, s.run P w = .ok v w := by
  induction s with
  | pure a => intro v h w; simp only [pv, Option.some.injEq] at h; subst h; rfl
  | program k ih => intro v h w; exact ih P h w
  | mark m k ih => intro v h w; exact ih h w
  | _ => intro v h w; simp [pv] at h

/-! ### Values and their places -/
abbrev Blk := Array Value × TypeId
abbrev LH := List Blk

def plain : Value → Bool
  | .pointer (some _) => false
  | .slice (some _) _ _ => false
  | .func _ a b => a.isEmpty && b.isEmpty
  | _ => true

def rl0 (β : Nat → Nat) : Value → Value
  | .pointer (some a) => .pointer (some ⟨β a.block, a.off, a.spot⟩)
  | .slice (some a) l c => .slice (some ⟨β a.block, a.off, a.spot⟩) l c
  | v => v
def rl (β : Nat → Nat) : Value → Value
  | .pointer (some a) => .pointer (some ⟨β a.block, a.off, a.spot⟩)
  | .slice (some a) l c => .slice (some ⟨β a.block, a.off, a.spot⟩) l c
  | .func fn a b => .func fn (a.map (rl0 β)) (b.map (rl0 β))
  | v => v

def sc0 (n : Nat) : Value → Bool
  | .pointer (some a) => decide (a.block < n)
  | .slice (some a) _ _ => decide (a.block < n)
  | _ => true
def inn (n : Nat) : Value → Bool
  | .pointer (some a) => decide (a.block < n)
  | .slice (some a) _ _ => decide (a.block < n)
  | .func _ a b => a.toList.all (sc0 n) && b.toList.all (sc0 n)
  | _ => true

theorem rl_plain {β : Nat → Nat} {v : Value} (h : plain v = true) : rl β v = v := by
  cases v with
  | pointer a => cases a with
    | none => rfl
    | some a => simp [plain] at h
  | slice a l c => cases a with
    | none => rfl
    | some a => simp [plain] at h
  | func fn a b =>
    simp only [plain, Bool.and_eq_true, Array.isEmpty_iff] at h
    obtain ⟨rfl, rfl⟩ := h
    simp [rl]
  | _ => rfl

theorem rl0_congr {β β' : Nat → Nat} {n : Nat} {v : Value} (hs : sc0 n v = true) (h : ∀ i, i < n → β' i = β i) : rl0 β' v = rl0 β v := by
  cases v with
  | pointer a => cases a with
    | none => rfl
    | some a => simp only [sc0, decide_eq_true_eq] at hs; simp [rl0, h _ hs]
  | slice a l c => cases a with
    | none => rfl
    | some a => simp only [sc0, decide_eq_true_eq] at hs; simp [rl0, h _ hs]
  | _ => rfl

theorem rl_congr {β β' : Nat → Nat} {n : Nat} {v : Value} (hs : inn n v = true) (h : ∀ i, i < n → β' i = β i) : rl β' v = rl β v := by
  cases v with
  | pointer a => cases a with
    | none => rfl
    | some a => simp only [inn, decide_eq_true_eq] at hs; simp [rl, h _ hs]
  | slice a l c => cases a with
    | none => rfl
    | some a => simp only [inn, decide_eq_true_eq] at hs; simp [rl, h _ hs]
  | func fn a b =>
    simp only [inn, Bool.and_eq_true, List.all_eq_true] at hs
    simp only [rl]
    congr 1
    · exact Array.map_congr_left fun x hx => rl0_congr (hs.1 x (by simpa using hx)) h
    · exact Array.map_congr_left fun x hx => rl0_congr (hs.2 x (by simpa using hx)) h
  | _ => rfl

theorem sc0_mono {n m : Nat} (hnm : n ≤ m) {v : Value} (h : sc0 n v = true) : sc0 m v = true := by
  cases v with
  | pointer a => cases a with
    | none => rfl
    | some a => simp only [sc0, decide_eq_true_eq] at *; omega
  | slice a l c => cases a with
    | none => rfl
    | some a => simp only [sc0, decide_eq_true_eq] at *; omega
  | _ => rfl

theorem inn_mono {n m : Nat} (hnm : n ≤ m) {v : Value} (h : inn n v = true) : inn m v = true := by
  cases v with
  | pointer a => cases a with
    | none => rfl
    | some a => simp only [inn, decide_eq_true_eq] at *; omega
  | slice a l c => cases a with
    | none => rfl
    | some a => simp only [inn, decide_eq_true_eq] at *; omega
  | func fn a b =>
    simp only [inn, Bool.and_eq_true, List.all_eq_true] at *
    exact ⟨fun x hx => sc0_mono hnm (h.1 x hx), fun x hx => sc0_mono hnm (h.2 x hx)⟩
  | _ => rfl

theorem plain_inn {n : Nat} {v : Value} (h : plain v = true) : inn n v = true := by
  cases v with
  | pointer a => cases a with
    | none => rfl
    | some a => simp [plain] at h
  | slice a l c => cases a with
    | none => rfl
    | some a => simp [plain] at h
  | func fn a b =>
    simp only [plain, Bool.and_eq_true, Array.isEmpty_iff] at h
    obtain ⟨rfl, rfl⟩ := h
    rfl
  | _ => rfl

theorem rl_one {β : Nat → Nat} {v : Value} : (rl β v).oneCell' = v.oneCell' := by
  cases v with
  | pointer a => cases a <;> rfl
  | slice a l c => cases a <;> rfl
  | _ => rfl

/-! ### The machine's memory and the interpreter's -/
/-- The interpreter's blocks lie in the world, block i at β i. -/
structure Lies (β : Nat → Nat) (σ : LH) (w : World) : Prop where
  blk : ∀ (i : Nat) (c : Array Value) (t : TypeId), σ[i]? = some (c, t) → w.heap[β i]? = some (.cells (c.map (rl β)) t (0, 0))
  sc : ∀ (i : Nat) (c : Array Value) (t : TypeId), σ[i]? = some (c, t) → ∀ v ∈ c.toList, inn σ.length v = true ∧ v.oneCell' = true

theorem Lies.lt {β : Nat → Nat} {σ : LH} {w : World} (h : Lies β σ w) {i : Nat} (hi : i < σ.length) : β i < w.heap.size := by
  have := h.blk i σ[i].1 σ[i].2 (by simp [hi])
  exact (Array.getElem?_eq_some_iff.1 this).1

/-- What a function that began in world W with blocks σ0 (at β0) has made of its memory. -/
structure Hp (σ0 : LH) (W : World) (β0 β : Nat → Nat) (σ : LH) (w : World) : Prop where
  lies : Lies β σ w
  mle : σ0.length ≤ σ.length
  pre : ∀ i, i < σ0.length → σ[i]? = σ0[i]?
  ext : ∀ i, i < σ0.length → β i = β0 i
  low : ∀ i, i < σ0.length → β0 i < W.heap.size
  own : ∀ i, σ0.length ≤ i → i < σ.length → W.heap.size ≤ β i
  inj : ∀ i j, σ0.length ≤ i → i < j → j < σ.length → β i ≠ β j
  below : Below W.heap.size W w

theorem Hp.start {σ : LH} {W : World} {β : Nat → Nat} (h : Lies β σ W) : Hp σ W β β σ W :=
  ⟨h, Nat.le_refl _, fun _ _ => rfl, fun _ _ => rfl, fun i hi => h.lt hi, fun i h1 h2 => absurd h2 (by omega), fun i j h1 h2 h3 => absurd h3 (by omega), Below.refl _ _⟩

theorem Lies.low {σ : LH} {w w' : World} {β : Nat → Nat} (h : Lies β σ w) (hb : Below w.heap.size w w') : Lies β σ w' := by
  refine ⟨fun i c t hi => ?_, h.sc⟩
  have := h.blk i c t hi
  rw [hb.block _ (Array.getElem?_eq_some_iff.1 this).1]
  exact this

/-- A draw. -/
theorem Hp.drew {σ0 σ : LH} {W w : World} {β0 β : Nat → Nat} (h : Hp σ0 W β0 β σ w) : Hp σ0 W β0 β σ { w with drawn := w.drawn + 1 } :=
  ⟨⟨h.lies.blk, h.lies.sc⟩, h.mle, h.pre, h.ext, h.low, h.own, h.inj, ⟨h.below.os, h.below.tape, h.below.output, h.below.size, h.below.block⟩⟩

/-- What a call that leaves all old memory alone has done. -/
theorem Hp.past {σ0 σ : LH} {W w w' : World} {β0 β : Nat → Nat} (h : Hp σ0 W β0 β σ w) (hb : Below w.heap.size w w') : Hp σ0 W β0 β σ w' :=
  ⟨h.lies.low hb, h.mle, h.pre, h.ext, h.low, h.own, h.inj, h.below.trans (hb.mono h.below.size)⟩

/-- A call that has left new memory. -/
theorem Hp.call {σ0 σ σ' : LH} {W w w' : World} {β0 β β' : Nat → Nat} (h : Hp σ0 W β0 β σ w) (k : Hp σ w β β' σ' w') : Hp σ0 W β0 β' σ' w' := by
  have hm := h.mle
  have hk := k.mle
  refine ⟨k.lies, by omega, fun i hi => by rw [k.pre i (by omega), h.pre i hi], fun i hi => by rw [k.ext i (by omega), h.ext i hi], h.low, fun i h1 h2 => ?_, fun i j h1 h2 h3 => ?_, h.below.trans (k.below.mono h.below.size)⟩
  · by_cases hi : i < σ.length
    · rw [k.ext i hi]; exact h.own i h1 hi
    · have := k.own i (by omega) h2; have := h.below.size; omega
  · by_cases hj : j < σ.length
    · rw [k.ext i (by omega), k.ext j hj]; exact h.inj i j h1 h2 hj
    · by_cases hi : i < σ.length
      · have h4 := k.own j (by omega) h3
        have h5 := k.low i hi
        rw [k.ext i hi]
        omega
      · exact k.inj i j (by omega) h2 h3

/-- A new block. -/
theorem Hp.new {σ0 σ : LH} {W w : World} {β0 β : Nat → Nat} (h : Hp σ0 W β0 β σ w) (c : Array Value) (t : TypeId)
    (hc : ∀ v ∈ c.toList, inn σ.length v = true ∧ v.oneCell' = true) :
    ∃ β', (∀ i, i < σ.length → β' i = β i) ∧ β' σ.length = w.heap.size ∧
      Hp σ0 W β0 β' (σ ++ [(c, t)]) { w with heap := w.heap.push (.cells (c.map (rl β)) t (0, 0)) } := by
  refine ⟨fun i => if i = σ.length then w.heap.size else β i, fun i hi => by simp [Nat.ne_of_lt hi], by simp, ?_⟩
  have hag : ∀ i, i < σ.length → (fun i => if i = σ.length then w.heap.size else β i) i = β i := fun i hi => by simp [Nat.ne_of_lt hi]
  have hmap : ∀ c : Array Value, (∀ v ∈ c.toList, inn σ.length v = true) → c.map (rl (fun i => if i = σ.length then w.heap.size else β i)) = c.map (rl β) :=
    fun c hc => Array.map_congr_left fun x hx => rl_congr (hc x (by simpa using hx)) hag
  have hmle := h.mle
  have hlast : ∀ i c' t', (σ ++ [(c, t)])[i]? = some (c', t') → ¬ i < σ.length → i = σ.length ∧ c' = c ∧ t' = t := by
    intro i c' t' hi hlt
    have h1 := (List.getElem?_eq_some_iff.1 hi).1
    simp only [List.length_append, List.length_singleton] at h1
    have hi' : i = σ.length := by omega
    subst hi'
    simp only [List.getElem?_append_right (Nat.le_refl _), Nat.sub_self, List.getElem?_cons_zero, Option.some.injEq, Prod.mk.injEq] at hi
    exact ⟨rfl, hi.1.symm, hi.2.symm⟩
  refine ⟨⟨fun i c' t' hi => ?_, fun i c' t' hi v hv => ?_⟩, by simp; omega, fun i hi => ?_, fun i hi => ?_, h.low, fun i h1 h2 => ?_, fun i j h1 h2 h3 => ?_, ?_⟩
  · by_cases hlt : i < σ.length
    · rw [List.getElem?_append_left hlt] at hi
      have := h.lies.blk i c' t' hi
      simp only [Nat.ne_of_lt hlt, if_false]
      rw [hmap c' fun v hv => (h.lies.sc i c' t' hi v hv).1, Array.getElem?_push, if_neg (Nat.ne_of_lt (h.lies.lt hlt))]
      exact this
    · obtain ⟨rfl, rfl, rfl⟩ := hlast i c' t' hi hlt
      rw [hmap c' fun v hv => (hc v hv).1]
      simp
  · by_cases hlt : i < σ.length
    · rw [List.getElem?_append_left hlt] at hi
      exact ⟨inn_mono (by simp) (h.lies.sc i c' t' hi v hv).1, (h.lies.sc i c' t' hi v hv).2⟩
    · obtain ⟨rfl, rfl, rfl⟩ := hlast i c' t' hi hlt
      exact ⟨inn_mono (by simp) (hc v hv).1, (hc v hv).2⟩
  · rw [List.getElem?_append_left (by omega)]; exact h.pre i hi
  · simp only [show i ≠ σ.length by omega, if_false]; exact h.ext i hi
  · by_cases hi : i = σ.length
    · simp only [hi, if_true]; exact h.below.size
    · simp only [hi, if_false]; exact h.own i h1 (by simp at h2; omega)
  · simp only [List.length_append, List.length_singleton] at h3
    simp only [show i ≠ σ.length by omega, if_false]
    by_cases hj : j = σ.length
    · simp only [hj, if_true]; exact Nat.ne_of_lt (h.lies.lt (by omega))
    · simp only [hj, if_false]; exact h.inj i j h1 h2 (by omega)
  · exact h.below.trans ⟨rfl, rfl, rfl, by simp, fun k hk => by
      have := h.below.size
      show (w.heap.push _)[k]? = _
      rw [Array.getElem?_push, if_neg (by omega)]⟩

/-- A block of the function's own is written. -/
theorem Hp.write {σ0 σ : LH} {W w : World} {β0 β : Nat → Nat} (h : Hp σ0 W β0 β σ w) {b : Nat} {c c' : Array Value} {t : TypeId}
    (hb : σ0.length ≤ b) (hσ : σ[b]? = some (c, t)) (hc : ∀ v ∈ c'.toList, inn σ.length v = true ∧ v.oneCell' = true) :
    Hp σ0 W β0 β (σ.set b (c', t)) (w.setRow (β b) (c'.map (rl β))) := by
  have hlt : b < σ.length := (List.getElem?_eq_some_iff.1 hσ).1
  have hob := h.own b hb hlt
  have hne : ∀ i, i < σ.length → i ≠ b → β i ≠ β b := by
    intro i hi hib
    by_cases hm : i < σ0.length
    · have h2 := h.low i hm
      rw [h.ext i hm]
      omega
    · rcases Nat.lt_or_gt_of_ne hib with h1 | h1
      · exact h.inj i b (by omega) h1 hlt
      · exact (h.inj b i hb h1 hi).symm
  refine ⟨⟨fun i c1 t1 hi => ?_, fun i c1 t1 hi v hv => ?_⟩, by simpa using h.mle, fun i hi => ?_, h.ext, h.low, fun i h1 h2 => h.own i h1 (by simpa using h2), fun i j h1 h2 h3 => h.inj i j h1 h2 (by simpa using h3), ?_⟩
  · by_cases hib : i = b
    · subst hib
      rw [List.getElem?_set_self hlt] at hi
      simp only [Option.some.injEq, Prod.mk.injEq] at hi
      obtain ⟨rfl, rfl⟩ := hi
      exact setRow_heap w (β i) _ _ _ _ (h.lies.blk i c t hσ)
    · rw [List.getElem?_set_ne (Ne.symm hib)] at hi
      have hi' := (List.getElem?_eq_some_iff.1 hi).1
      rw [setRow_other _ _ _ _ (hne i hi' hib)]
      exact h.lies.blk i c1 t1 hi
  · simp only [List.length_set]
    by_cases hib : i = b
    · subst hib
      rw [List.getElem?_set_self hlt] at hi
      simp only [Option.some.injEq, Prod.mk.injEq] at hi
      obtain ⟨rfl, rfl⟩ := hi
      exact hc v hv
    · rw [List.getElem?_set_ne (Ne.symm hib)] at hi
      exact h.lies.sc i c1 t1 hi v hv
  · rw [List.getElem?_set_ne (by omega)]; exact h.pre i hi
  · exact h.below.trans ⟨rfl, rfl, rfl, by simp, fun k hk => setRow_other _ _ _ _ (by omega)⟩

end Go.RX
