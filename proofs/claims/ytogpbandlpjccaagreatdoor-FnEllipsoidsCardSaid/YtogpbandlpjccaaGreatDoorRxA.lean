/- A small interpreter for the part of Go that computes with numbers, texts and structs in memory of its own, and the proof that the machine's call does what the interpreter says. -/
import Derived.Orders
import Derived.Below
import Derived.Laws.Sem
import Derived.Laws.Cells
import Derived.Laws.CopyRow
import Derived.Laws.StructEq
import Derived.Tactics
import Derived.KernelRfl
import Derived.Laws.AppendOwn
set_option linter.unusedSimpArgs false
set_option linter.unusedVariables false
namespace Go.RX
open Go.RowKit
def pv (P : Program) {α : Type} : Sem α → Option α
 | .pure a => some a
 | .program k => pv P (k P)
 | .mark _ k => pv P k
 | _ => none
theorem pv_run {P : Program} {α : Type} (s : Sem α) : ∀ {v : α}, pv P s = some v → ∀ w, s.run P w = .ok v w := by
 induction s with
 | pure a => intro v h w; simp only [pv, Option.some.injEq] at h; subst h; rfl
 | program k ih => intro v h w; exact ih P h w
 | mark m k ih => intro v h w; exact ih h w
 | _ => intro v h w; simp [pv] at h
abbrev Blk := Array Value × TypeId
abbrev LH := List Blk
def plain0 : Value → Bool
 | .pointer (some _) => false
 | .slice (some _) _ _ => false
 | _ => true
def plain : Value → Bool
 | .pointer (some _) => false
 | .slice (some _) _ _ => false
 | .func _ a b => a.isEmpty && b.isEmpty
 | .tuple vs => vs.toList.all plain0
 | _ => true
theorem plain_plain0 {v : Value} (h : plain v = true) : plain0 v = true := by
 cases v with
 | pointer a => cases a with
  | none => rfl
  | some a => simp [plain] at h
 | slice a l c => cases a with
  | none => rfl
  | some a => simp [plain] at h
 | _ => rfl
structure Pl where
 adr : Option Nat
 ha : Option Addr
 hl : Nat
 hc : Nat
 sz : Nat
def Pl.blk (p : Pl) : Nat := p.adr.getD 0
def Pl.off (p : Pl) (i : Nat) : Nat := match p.ha with | some a => a.off + i * p.sz | none => i * p.sz
def mv (p : Pl) (a : Addr) : Addr := match a.spot with | none => ⟨p.blk, a.off, none⟩ | some _ => ⟨p.blk, p.off a.off, none⟩
def shA (p : Pl) : Nat → Option Addr
 | 0 => p.ha
 | n + 1 => p.ha.map (·.add ((n + 1) * p.sz))
@[simp] theorem shA_zero (p : Pl) : shA p 0 = p.ha := rfl
def mvS (p : Pl) (a : Addr) (l c : Nat) : Value := match a.spot with | none => .slice (some ⟨p.blk, a.off, none⟩) l c | some _ => .slice (shA p a.off) (p.hl - a.off) (p.hc - a.off)
def rl0 (β : Nat → Pl) : Value → Value
 | .pointer (some a) => .pointer (some (mv (β a.block) a))
 | .slice (some a) l c => mvS (β a.block) a l c
 | v => v
def rl (β : Nat → Pl) : Value → Value
 | .pointer (some a) => .pointer (some (mv (β a.block) a))
 | .slice (some a) l c => mvS (β a.block) a l c
 | .func fn a b => .func fn (a.map (rl0 β)) (b.map (rl0 β))
 | .tuple vs => .tuple (vs.map (rl0 β))
 | v => v
def sc0 (n : Nat) : Value → Bool
 | .pointer (some a) => decide (a.block < n)
 | .slice (some a) _ _ => decide (a.block < n)
 | _ => true
def inn (n : Nat) : Value → Bool
 | .pointer (some a) => decide (a.block < n)
 | .slice (some a) _ _ => decide (a.block < n)
 | .func _ a b => a.toList.all (sc0 n) && b.toList.all (sc0 n)
 | .tuple vs => vs.toList.all (sc0 n)
 | _ => true
theorem rl0_plain {β : Nat → Pl} {v : Value} (h : plain0 v = true) : rl0 β v = v := by
 cases v with
 | pointer a => cases a with
  | none => rfl
  | some a => simp [plain0] at h
 | slice a l c => cases a with
  | none => rfl
  | some a => simp [plain0] at h
 | _ => rfl
theorem sc0_plain {n : Nat} {v : Value} (h : plain0 v = true) : sc0 n v = true := by
 cases v with
 | pointer a => cases a with
  | none => rfl
  | some a => simp [plain0] at h
 | slice a l c => cases a with
  | none => rfl
  | some a => simp [plain0] at h
 | _ => rfl
theorem rl_plain {β : Nat → Pl} {v : Value} (h : plain v = true) : rl β v = v := by
 cases v with
 | pointer a => cases a with
  | none => rfl
  | some a => simp [plain] at h
 | slice a l c => cases a with
  | none => rfl
  | some a => simp [plain] at h
 | func fn a b =>
  simp only [plain, Bool.and_eq_true, Array.isEmpty_iff] at h
  obtain ⟨rfl, rfl⟩ := h
  simp [rl]
 | tuple vs =>
  simp only [plain, List.all_eq_true] at h
  simp only [rl]
  congr 1
  conv => rhs; rw [← Array.map_id vs]
  exact Array.map_congr_left fun x hx => rl0_plain (h x (by simpa using hx))
 | _ => rfl
theorem rl0_congr {β β' : Nat → Pl} {n : Nat} {v : Value} (hs : sc0 n v = true) (h : ∀ i, i < n → β' i = β i) : rl0 β' v = rl0 β v := by
 cases v with
 | pointer a => cases a with
  | none => rfl
  | some a => simp only [sc0, decide_eq_true_eq] at hs; simp [rl0, h _ hs]
 | slice a l c => cases a with
  | none => rfl
  | some a => simp only [sc0, decide_eq_true_eq] at hs; simp [rl0, h _ hs]
 | _ => rfl
theorem rl_congr {β β' : Nat → Pl} {n : Nat} {v : Value} (hs : inn n v = true) (h : ∀ i, i < n → β' i = β i) : rl β' v = rl β v := by
 cases v with
 | pointer a => cases a with
  | none => rfl
  | some a => simp only [inn, decide_eq_true_eq] at hs; simp [rl, h _ hs]
 | slice a l c => cases a with
  | none => rfl
  | some a => simp only [inn, decide_eq_true_eq] at hs; simp [rl, h _ hs]
 | func fn a b =>
  simp only [inn, Bool.and_eq_true, List.all_eq_true] at hs
  simp only [rl]
  congr 1
  ·exact Array.map_congr_left fun x hx => rl0_congr (hs.1 x (by simpa using hx)) h
  ·exact Array.map_congr_left fun x hx => rl0_congr (hs.2 x (by simpa using hx)) h
 | tuple vs =>
  simp only [inn, List.all_eq_true] at hs
  simp only [rl]
  congr 1
  exact Array.map_congr_left fun x hx => rl0_congr (hs x (by simpa using hx)) h
 | _ => rfl
theorem sc0_mono {n m : Nat} (hnm : n ≤ m) {v : Value} (h : sc0 n v = true) : sc0 m v = true := by
 cases v with
 | pointer a => cases a with
  | none => rfl
  | some a => simp only [sc0, decide_eq_true_eq] at *; omega
 | slice a l c => cases a with
  | none => rfl
  | some a => simp only [sc0, decide_eq_true_eq] at *; omega
 | _ => rfl
theorem inn_mono {n m : Nat} (hnm : n ≤ m) {v : Value} (h : inn n v = true) : inn m v = true := by
 cases v with
 | pointer a => cases a with
  | none => rfl
  | some a => simp only [inn, decide_eq_true_eq] at *; omega
 | slice a l c => cases a with
  | none => rfl
  | some a => simp only [inn, decide_eq_true_eq] at *; omega
 | func fn a b =>
  simp only [inn, Bool.and_eq_true, List.all_eq_true] at *
  exact ⟨fun x hx => sc0_mono hnm (h.1 x hx), fun x hx => sc0_mono hnm (h.2 x hx)⟩
 | tuple vs =>
  simp only [inn, List.all_eq_true] at *
  exact fun x hx => sc0_mono hnm (h x hx)
 | _ => rfl
theorem plain_inn {n : Nat} {v : Value} (h : plain v = true) : inn n v = true := by
 cases v with
 | pointer a => cases a with
  | none => rfl
  | some a => simp [plain] at h
 | slice a l c => cases a with
  | none => rfl
  | some a => simp [plain] at h
 | func fn a b =>
  simp only [plain, Bool.and_eq_true, Array.isEmpty_iff] at h
  obtain ⟨rfl, rfl⟩ := h
  rfl
 | tuple vs =>
  simp only [plain, inn, List.all_eq_true] at *
  exact fun x hx => sc0_plain (h x hx)
 | _ => rfl
theorem rl_one {β : Nat → Pl} {v : Value} : (rl β v).oneCell' = v.oneCell' := by
 cases v with
 | pointer a => cases a <;> rfl
 | slice a l c => cases a with
  | none => rfl
  | some a => simp only [rl, mvS]; split <;> rfl
 | _ => rfl
def isN (c : Array Value) : Bool := match c with
 | ⟨.tuple _ :: _⟩ => false
 | _ => true
def deadC : Array Value := ⟨[.tuple #[]]⟩
def lstC (rows : List Value) (g : Bool) (z : Value) : Array Value := ⟨[.tuple ⟨rows⟩, .bool g, z]⟩
def inOrder (rows : List Value) (g : Bool) : List Value := match g with | true => rows.reverse | false => rows
def flat (l : List Value) : List Value := l.flatMap fun r => r.cells.toList
def cI : Value → Int | .int _ n => n | _ => 0
def cS : Value → ByteArray | .string s => s | _ => ByteArray.empty
def asC : List Value → List Value → List Value
 | [], _ => []
 | .int k _ :: zs, cs => .int k (cI (cs.headD undef)) :: asC zs cs.tail
 | _ :: zs, cs => undef :: asC zs cs.tail
def rowAs (z r : Value) : Value := match z with
 | .agg zs => .agg ⟨asC zs.toList r.cells.toList⟩
 | .int k _ => .int k (cI r)
 | .string _ => .string (cS r)
 | _ => undef
structure Lst (p : Pl) (z : Value) (l : List Value) (g : Bool) (t : TypeId) (w : World) : Prop where
 len : p.hl = l.length
 row : ∀ r ∈ l, r = rowAs z r ∧ r.cells.size = p.sz ∧ ∀ x ∈ r.cells.toList, x.oneCell' = true
 szp : 0 < p.sz
 lc : p.hl ≤ p.hc
 szz : z.cells.size = p.sz
 lay : (p.adr = none ∧ l = [] ∧ (g = true → p.ha = none ∧ p.hc = 0)) ∨ ∃ k o c t' fz, p.ha = some ⟨k, o, none⟩ ∧ p.adr = some k ∧ w.heap[k]? = some (.cells c t' fz) ∧ (c.toList.drop o).take (l.length * p.sz) = flat l
 gr : g = true → w.ownsRow 0 t p.sz (.slice p.ha p.hl p.hc) l.length (flat l)
theorem flat_len {l : List Value} {n : Nat} (h : ∀ r ∈ l, r.cells.size = n) : (flat l).length = l.length * n := by
 induction l with
 | nil => simp [flat]
 | cons r l ih =>
  have h1 := ih fun x hx => h x (by simp [hx])
  have h2 := h r (by simp)
  simp only [flat, List.flatMap_cons, List.length_append, Array.length_toList, List.length_cons] at h1 ⊢
  rw [h1, h2, Nat.succ_mul]; omega
theorem Lst.mono {p : Pl} {z : Value} {l : List Value} {g : Bool} {t : TypeId} {w w' : World} (h : Lst p z l g t w) (hw : ∀ k, p.adr = some k → w'.heap[k]? = w.heap[k]?) : Lst p z l g t w' := by
 refine ⟨h.len, h.row, h.szp, h.lc, h.szz, ?_, fun hg => ?_⟩
 ·rcases h.lay with h1 | ⟨k, o, c, t', fz, h1, h2, h3, h4⟩
  ·exact .inl h1
  ·exact .inr ⟨k, o, c, t', fz, h1, h2, by rw [hw k h2]; exact h3, h4⟩
 ·have h1 := h.gr hg
  refine ⟨h1.1, ?_⟩
  rcases h1.2 with h2 | ⟨q, cap, cur, h2, h3, h4, h5⟩
  ·exact .inl h2
  ·refine .inr ⟨q, cap, cur, h2, h3, ?_, h5⟩
   rcases h.lay with h6 | ⟨k, o, c, t', fz, h6, h7, h8, h9⟩
   ·have := (h6.2.2 hg).1
    rw [this] at h2
    simp at h2
   ·rw [h6] at h2
    simp only [Value.slice.injEq, Option.some.injEq, Addr.mk.injEq, and_true, true_and] at h2
    rw [← h2.1.1, hw _ h7, h2.1.1]
    exact h4
structure Lies (β : Nat → Pl) (σ : LH) (w : World) : Prop where
 blk : ∀ (i : Nat) (c : Array Value) (t : TypeId), σ[i]? = some (c, t) → isN c = true → ∃ k, (β i).adr = some k ∧ w.heap[k]? = some (.cells (c.map (rl β)) t (0, 0))
 sc : ∀ (i : Nat) (c : Array Value) (t : TypeId), σ[i]? = some (c, t) → isN c = true → ∀ v ∈ c.toList, inn σ.length v = true ∧ v.oneCell' = true
 lst : ∀ (i : Nat) (rows : List Value) (g : Bool) (z : Value) (t : TypeId), σ[i]? = some (lstC rows g z, t) → Lst (β i) z (inOrder rows g) g t w
theorem Lies.at {β : Nat → Pl} {σ : LH} {w : World} (h : Lies β σ w) {i : Nat} {c : Array Value} {t : TypeId} (hi : σ[i]? = some (c, t)) (hn : isN c = true) : w.heap[(β i).blk]? = some (.cells (c.map (rl β)) t (0, 0)) := by
 obtain ⟨k, h1, h2⟩ := h.blk i c t hi hn
 simp only [Pl.blk, h1, Option.getD_some]
 exact h2
def live (σ : LH) (i : Nat) : Prop := ∀ t, σ[i]? ≠ some (deadC, t)
theorem live_n {σ : LH} {i : Nat} {c : Array Value} {t : TypeId} (hi : σ[i]? = some (c, t)) (hn : isN c = true) : live σ i := by
 intro t' he
 rw [hi] at he
 cases he
 simp [isN, deadC] at hn
theorem live_l {σ : LH} {i : Nat} {rows : List Value} {g : Bool} {z : Value} {t : TypeId} (hi : σ[i]? = some (lstC rows g z, t)) : live σ i := by
 intro t' he
 rw [hi] at he
 simp [lstC, deadC] at he
structure Hp (σ0 : LH) (W : World) (β0 β : Nat → Pl) (σ : LH) (w : World) : Prop where
 lies : Lies β σ w
 mle : σ0.length ≤ σ.length
 pre : ∀ i, i < σ0.length → σ[i]? = σ0[i]?
 ext : ∀ i, i < σ0.length → β i = β0 i
 low : ∀ i, i < σ0.length → ∀ k, (β0 i).adr = some k → k < W.heap.size
 own : ∀ i, σ0.length ≤ i → i < σ.length → ∀ k, (β i).adr = some k → W.heap.size ≤ k
 inj : ∀ i j, σ0.length ≤ i → i < j → j < σ.length → live σ i → live σ j → ∀ k, (β i).adr = some k → (β j).adr ≠ some k
 up : ∀ i, i < σ.length → ∀ k, (β i).adr = some k → k < w.heap.size
 below : Below W.heap.size W w
def Within (β : Nat → Pl) (σ : LH) (w : World) : Prop := ∀ i, i < σ.length → ∀ k, (β i).adr = some k → k < w.heap.size
theorem Hp.start {σ : LH} {W : World} {β : Nat → Pl} (h : Lies β σ W) (hw : Within β σ W) : Hp σ W β β σ W :=
 ⟨h, Nat.le_refl _, fun _ _ => rfl, fun _ _ => rfl, hw, fun i h1 h2 => absurd h2 (by omega), fun i j h1 h2 h3 => absurd h3 (by omega), hw, Below.refl _ _⟩
theorem Lies.low {σ : LH} {w w' : World} {β : Nat → Pl} (h : Lies β σ w) (hu : Within β σ w) (hb : Below w.heap.size w w') : Lies β σ w' := by
 refine ⟨fun i c t hi hn => ?_, h.sc, fun i rows g z t hi => ?_⟩
 ·obtain ⟨k, h1, h2⟩ := h.blk i c t hi hn
  refine ⟨k, h1, ?_⟩
  rw [hb.block _ (Array.getElem?_eq_some_iff.1 h2).1]
  exact h2
 ·refine (h.lst i rows g z t hi).mono fun k hk => hb.block _ (hu i (List.getElem?_eq_some_iff.1 hi).1 k hk)
theorem Hp.drew {σ0 σ : LH} {W w : World} {β0 β : Nat → Pl} (h : Hp σ0 W β0 β σ w) : Hp σ0 W β0 β σ { w with drawn := w.drawn + 1 } :=
 ⟨⟨h.lies.blk, h.lies.sc, fun i rows g z t hi => (h.lies.lst i rows g z t hi).mono fun _ _ => rfl⟩, h.mle, h.pre, h.ext, h.low, h.own, h.inj, h.up, ⟨h.below.os, h.below.tape, h.below.output, h.below.size, h.below.block⟩⟩
theorem Hp.past {σ0 σ : LH} {W w w' : World} {β0 β : Nat → Pl} (h : Hp σ0 W β0 β σ w) (hb : Below w.heap.size w w') : Hp σ0 W β0 β σ w' :=
 ⟨h.lies.low h.up hb, h.mle, h.pre, h.ext, h.low, h.own, h.inj, fun i hi k hk => Nat.lt_of_lt_of_le (h.up i hi k hk) hb.size, h.below.trans (hb.mono h.below.size)⟩
theorem Hp.call {σ0 σ σ' : LH} {W w w' : World} {β0 β β' : Nat → Pl} (h : Hp σ0 W β0 β σ w) (k : Hp σ w β β' σ' w') : Hp σ0 W β0 β' σ' w' := by
 have hm := h.mle
 have hk := k.mle
 refine ⟨k.lies, by omega, fun i hi => by rw [k.pre i (by omega), h.pre i hi], fun i hi => by rw [k.ext i (by omega), h.ext i hi], h.low, fun i h1 h2 a ha => ?_, fun i j h1 h2 h3 l1 l2 a ha => ?_, k.up, h.below.trans (k.below.mono h.below.size)⟩
 ·by_cases hi : i < σ.length
  ·rw [k.ext i hi] at ha; exact h.own i h1 hi a ha
  ·have := k.own i (by omega) h2 a ha; have := h.below.size; omega
 ·by_cases hj : j < σ.length
  ·rw [k.ext i (by omega)] at ha
   rw [k.ext j hj]
   refine h.inj i j h1 h2 hj ?_ ?_ a ha
   ·intro t; rw [← k.pre i (by omega)]; exact l1 t
   ·intro t; rw [← k.pre j hj]; exact l2 t
  ·by_cases hi : i < σ.length
   ·intro hja
    have h4 := k.own j (by omega) h3 a hja
    rw [k.ext i hi] at ha
    have h5 := k.low i hi a ha
    omega
   ·exact k.inj i j (by omega) h2 h3 l1 l2 a ha
theorem getElem?_snoc {α : Type} {l : List α} {x y : α} {i : Nat} (h : (l ++ [x])[i]? = some y) (hlt : ¬ i < l.length) : i = l.length ∧ y = x := by
 have h1 := (List.getElem?_eq_some_iff.1 h).1
 simp only [List.length_append, List.length_singleton] at h1
 have hi' : i = l.length := by omega
 subst hi'
 simp only [List.getElem?_append_right (Nat.le_refl _), Nat.sub_self, List.getElem?_cons_zero, Option.some.injEq] at h
 exact ⟨rfl, h.symm⟩
theorem Hp.newAt {σ0 σ : LH} {W w w' : World} {β0 β : Nat → Pl} (h : Hp σ0 W β0 β σ w) (c : Array Value) (t : TypeId) (p : Pl)
  (hold : ∀ i, i < σ.length → live σ i → ∀ k, (β i).adr = some k → w'.heap[k]? = w.heap[k]?) (hsz : w.heap.size ≤ w'.heap.size) (hbel : Below W.heap.size W w')
  (hc : isN c = true → (∀ v ∈ c.toList, inn σ.length v = true ∧ v.oneCell' = true) ∧ ∃ k, p.adr = some k ∧ w'.heap[k]? = some (.cells (c.map (rl β)) t (0, 0)))
  (hl : ∀ rows g z, c = lstC rows g z → Lst p z (inOrder rows g) g t w')
  (hp : ∀ k, p.adr = some k → W.heap.size ≤ k ∧ k < w'.heap.size ∧ ∀ i, i < σ.length → live σ i → (β i).adr ≠ some k) :
  ∃ β', (∀ i, i < σ.length → β' i = β i) ∧ β' σ.length = p ∧ Hp σ0 W β0 β' (σ ++ [(c, t)]) w' := by
 refine ⟨fun i => if i = σ.length then p else β i, fun i hi => by simp [Nat.ne_of_lt hi], by simp, ?_⟩
 have hag : ∀ i, i < σ.length → (fun i => if i = σ.length then p else β i) i = β i := fun i hi => by simp [Nat.ne_of_lt hi]
 have hmap : ∀ c : Array Value, (∀ v ∈ c.toList, inn σ.length v = true) → c.map (rl (fun i => if i = σ.length then p else β i)) = c.map (rl β) :=
  fun c hc => Array.map_congr_left fun x hx => rl_congr (hc x (by simpa using hx)) hag
 have hmle := h.mle
 have hlt : ∀ i c' t', (σ ++ [(c, t)])[i]? = some (c', t') → i < σ.length → σ[i]? = some (c', t') := fun i c' t' hi hl => by rwa [List.getElem?_append_left hl] at hi
 have hbz := h.below.size
 refine ⟨⟨fun i c' t' hi hn => ?_, fun i c' t' hi hn v hv => ?_, fun i rows g z t' hi => ?_⟩, by simp; omega, fun i hi => ?_, fun i hi => ?_, h.low, fun i h1 h2 k hk => ?_, fun i j h1 h2 h3 l1 l2 k hk => ?_, fun i hi k hk => ?_, hbel⟩
 ·by_cases hil : i < σ.length
  ·obtain ⟨k, h1, h2⟩ := h.lies.blk i c' t' (hlt _ _ _ hi hil) hn
   simp only [Nat.ne_of_lt hil, if_false]
   refine ⟨k, h1, ?_⟩
   rw [hmap c' fun v hv => (h.lies.sc i c' t' (hlt _ _ _ hi hil) hn v hv).1, hold i hil (live_n (hlt _ _ _ hi hil) hn) k h1]
   exact h2
  ·obtain ⟨rfl, he⟩ := getElem?_snoc hi hil
   cases he
   obtain ⟨h1, k, h2, h3⟩ := hc hn
   rw [hmap _ fun v hv => (h1 v hv).1]
   simp only [if_true]
   exact ⟨k, h2, h3⟩
 ·by_cases hil : i < σ.length
  ·exact ⟨inn_mono (by simp) (h.lies.sc i c' t' (hlt _ _ _ hi hil) hn v hv).1, (h.lies.sc i c' t' (hlt _ _ _ hi hil) hn v hv).2⟩
  ·obtain ⟨rfl, he⟩ := getElem?_snoc hi hil
   cases he
   exact ⟨inn_mono (by simp) ((hc hn).1 v hv).1, ((hc hn).1 v hv).2⟩
 ·by_cases hil : i < σ.length
  ·simp only [Nat.ne_of_lt hil, if_false]
   exact (h.lies.lst i rows g z t' (hlt _ _ _ hi hil)).mono fun k hk => hold i hil (live_l (hlt _ _ _ hi hil)) k hk
  ·obtain ⟨rfl, he⟩ := getElem?_snoc hi hil
   cases he
   simp only [if_true]
   exact hl rows g z rfl
 ·rw [List.getElem?_append_left (by omega)]; exact h.pre i hi
 ·simp only [show i ≠ σ.length by omega, if_false]; exact h.ext i hi
 ·by_cases hi : i = σ.length
  ·simp only [hi, if_true] at hk; exact (hp k hk).1
  ·simp only [hi, if_false] at hk; exact h.own i h1 (by simp at h2; omega) k hk
 ·simp only [List.length_append, List.length_singleton] at h3
  simp only [show i ≠ σ.length by omega, if_false] at hk
  by_cases hj : j = σ.length
  ·simp only [hj, if_true]
   intro hpk
   refine (hp k hpk).2.2 i (by omega) ?_ hk
   intro t; rw [← List.getElem?_append_left (l₂ := [(c, _)]) (show i < σ.length by omega)]; exact l1 t
  ·simp only [hj, if_false]
   refine h.inj i j h1 h2 (by omega) ?_ ?_ k hk
   ·intro t; rw [← List.getElem?_append_left (l₂ := [(c, _)]) (show i < σ.length by omega)]; exact l1 t
   ·intro t; rw [← List.getElem?_append_left (l₂ := [(c, _)]) (show j < σ.length by omega)]; exact l2 t
 ·simp only [List.length_append, List.length_singleton] at hi
  by_cases hj : i = σ.length
  ·simp only [hj, if_true] at hk; exact (hp k hk).2.1
  ·simp only [hj, if_false] at hk
   exact Nat.lt_of_lt_of_le (h.up i (by omega) k hk) hsz
def Fresh (n n' : Nat) (β' : Nat → Pl) (w w' : World) : Prop := Below w.heap.size w w' ∧ ∀ i, n ≤ i → i < n' → ∀ k, (β' i).adr = some k → w.heap.size ≤ k
theorem Fresh.refl (n : Nat) (β : Nat → Pl) (w : World) : Fresh n n β w w := ⟨Below.refl _ _, fun i h1 h2 => absurd h1 (by omega)⟩
theorem below_push (w : World) (o : Obj) : Below w.heap.size w { w with heap := w.heap.push o } := ⟨rfl, rfl, rfl, by simp, fun k hk => by
 show (w.heap.push _)[k]? = _
 rw [Array.getElem?_push, if_neg (by omega)]⟩
theorem Fresh.push {n : Nat} {β' : Nat → Pl} {w : World} (o : Obj) (h : (β' n).adr = some w.heap.size) : Fresh n (n + 1) β' w { w with heap := w.heap.push o } :=
 ⟨below_push w o, fun i h1 h2 k hk => by
  have : i = n := by omega
  subst this
  rw [h] at hk
  simp only [Option.some.injEq] at hk
  omega⟩
theorem Hp.new {σ0 σ : LH} {W w : World} {β0 β : Nat → Pl} (h : Hp σ0 W β0 β σ w) (c : Array Value) (t : TypeId)
  (hc : ∀ v ∈ c.toList, inn σ.length v = true ∧ v.oneCell' = true) :
  ∃ β', (∀ i, i < σ.length → β' i = β i) ∧ (β' σ.length).adr = some w.heap.size ∧
   Hp σ0 W β0 β' (σ ++ [(c, t)]) { w with heap := w.heap.push (.cells (c.map (rl β)) t (0, 0)) } := by
 have hbz := h.below.size
 have key := h.newAt (w' := { w with heap := w.heap.push (.cells (c.map (rl β)) t (0, 0)) }) c t ⟨some w.heap.size, none, 0, 0, 0⟩ (fun i hi _ k hk => by
   have := h.up i hi k hk
   show (w.heap.push _)[k]? = _
   rw [Array.getElem?_push, if_neg (by omega)]) (by simp) (h.below.trans ⟨rfl, rfl, rfl, by simp, fun k hk => by
   show (w.heap.push _)[k]? = _
   rw [Array.getElem?_push, if_neg (by omega)]⟩) (fun _ => ⟨hc, w.heap.size, rfl, by simp⟩) (fun rows g z he => by
   subst he
   have := hc (.tuple ⟨rows⟩) (by simp [lstC])
   simp [Value.oneCell'] at this) (fun k hk => by
   simp only [Option.some.injEq] at hk
   subst hk
   exact ⟨hbz, by simp, fun i hi _ he => by have := h.up i hi _ he; omega⟩)
 obtain ⟨β', h1, h2, h3⟩ := key
 exact ⟨β', h1, by rw [h2], h3⟩
theorem Hp.write {σ0 σ : LH} {W w : World} {β0 β : Nat → Pl} (h : Hp σ0 W β0 β σ w) {b : Nat} {c c' : Array Value} {t : TypeId}
  (hb : σ0.length ≤ b) (hσ : σ[b]? = some (c, t)) (hn : isN c = true) (hc : ∀ v ∈ c'.toList, inn σ.length v = true ∧ v.oneCell' = true) :
  Hp σ0 W β0 β (σ.set b (c', t)) (w.setRow (β b).blk (c'.map (rl β))) := by
 have hlt : b < σ.length := (List.getElem?_eq_some_iff.1 hσ).1
 obtain ⟨kb, hkb, hkw⟩ := h.lies.blk b c t hσ hn
 have hblk : (β b).blk = kb := by simp [Pl.blk, hkb]
 rw [hblk]
 have hob := h.own b hb hlt kb hkb
 have hlb : live σ b := by
  intro t' he
  rw [hσ] at he
  cases he
  simp [isN, deadC] at hn
 have hne : ∀ i, i < σ.length → live σ i → i ≠ b → ∀ k, (β i).adr = some k → k ≠ kb := by
  intro i hi hl hib k hk he
  subst he
  by_cases hm : i < σ0.length
  ·rw [h.ext i hm] at hk
   have h2 := h.low i hm k hk
   omega
  ·rcases Nat.lt_or_gt_of_ne hib with h1 | h1
   ·exact h.inj i b (by omega) h1 hlt hl hlb k hk hkb
   ·exact h.inj b i hb h1 hi hlb hl k hkb hk
 have hc'n : isN c' = true := by
  unfold isN
  split
  ·rename_i v r
   have := (hc (.tuple v) (by simp)).2
   simp [Value.oneCell'] at this
  ·rfl
 have hsize : (w.setRow kb (c'.map (rl β))).heap.size = w.heap.size := by simp
 have hliv : ∀ i, live (σ.set b (c', t)) i → live σ i := by
  intro i hl t' he
  by_cases hib : i = b
  ·subst hib; exact hlb t' he
  ·refine hl t' ?_
   rw [List.getElem?_set_ne (Ne.symm hib)]; exact he
 refine ⟨⟨fun i c1 t1 hi hn1 => ?_, fun i c1 t1 hi hn1 v hv => ?_, fun i rows g z t1 hi => ?_⟩, by simpa using h.mle, fun i hi => ?_, h.ext, h.low, fun i h1 h2 => h.own i h1 (by simpa using h2), fun i j h1 h2 h3 l1 l2 => h.inj i j h1 h2 (by simpa using h3) (hliv i l1) (hliv j l2), fun i hi k hk => ?_, ?_⟩
 ·by_cases hib : i = b
  ·subst hib
   rw [List.getElem?_set_self hlt] at hi
   simp only [Option.some.injEq, Prod.mk.injEq] at hi
   obtain ⟨rfl, rfl⟩ := hi
   exact ⟨kb, hkb, setRow_heap w kb _ _ _ _ hkw⟩
  ·rw [List.getElem?_set_ne (Ne.symm hib)] at hi
   have hi' := (List.getElem?_eq_some_iff.1 hi).1
   obtain ⟨k, h1, h2⟩ := h.lies.blk i c1 t1 hi hn1
   refine ⟨k, h1, ?_⟩
   rw [setRow_other _ _ _ _ (hne i hi' (fun t' he => by rw [hi] at he; cases he; simp [isN, deadC] at hn1) hib k h1)]
   exact h2
 ·simp only [List.length_set]
  by_cases hib : i = b
  ·subst hib
   rw [List.getElem?_set_self hlt] at hi
   simp only [Option.some.injEq, Prod.mk.injEq] at hi
   obtain ⟨rfl, rfl⟩ := hi
   exact hc v hv
  ·rw [List.getElem?_set_ne (Ne.symm hib)] at hi
   exact h.lies.sc i c1 t1 hi hn1 v hv
 ·by_cases hib : i = b
  ·subst hib
   rw [List.getElem?_set_self hlt] at hi
   simp only [Option.some.injEq, Prod.mk.injEq] at hi
   rw [hi.1] at hc'n
   simp [isN, lstC] at hc'n
  ·rw [List.getElem?_set_ne (Ne.symm hib)] at hi
   have hi' := (List.getElem?_eq_some_iff.1 hi).1
   refine (h.lies.lst i rows g z t1 hi).mono fun k hk => ?_
   exact setRow_other _ _ _ _ (hne i hi' (fun t' he => by rw [hi] at he; simp [lstC, deadC] at he) hib k hk)
 ·rw [List.getElem?_set_ne (by omega)]; exact h.pre i hi
 ·rw [hsize]; exact h.up i (by simpa using hi) k hk
 ·exact h.below.trans ⟨rfl, rfl, rfl, by simp, fun k hk => setRow_other _ _ _ _ (by omega)⟩
theorem Hp.kill {σ0 σ : LH} {W w : World} {β0 β : Nat → Pl} (h : Hp σ0 W β0 β σ w) {b : Nat} {e : TypeId} (hb : σ0.length ≤ b) : Hp σ0 W β0 β (σ.set b (deadC, e)) w := by
 have hget : ∀ (i : Nat) (c : Array Value) (t : TypeId), (σ.set b (deadC, e))[i]? = some (c, t) → c ≠ deadC → σ[i]? = some (c, t) := by
  intro i c t hi hc
  by_cases hib : i = b
  ·subst hib
   by_cases hlt : i < σ.length
   ·rw [List.getElem?_set_self hlt] at hi
    simp only [Option.some.injEq, Prod.mk.injEq] at hi
    exact absurd hi.1.symm hc
   ·rw [List.getElem?_eq_none (by simp; omega)] at hi
    cases hi
  ·rwa [List.getElem?_set_ne (Ne.symm hib)] at hi
 have hnd : ∀ c : Array Value, isN c = true → c ≠ deadC := fun c hn he => by subst he; simp [isN, deadC] at hn
 have hld : ∀ rows g z, lstC rows g z ≠ deadC := fun rows g z he => by simp [lstC, deadC] at he
 have hliv : ∀ i, i < σ.length → live (σ.set b (deadC, e)) i → live σ i := by
  intro i hi hl t he
  by_cases hib : i = b
  ·subst hib
   exact hl e (List.getElem?_set_self hi)
  ·refine hl t ?_
   rw [List.getElem?_set_ne (Ne.symm hib)]; exact he
 refine ⟨⟨fun i c t hi hn => h.lies.blk i c t (hget i c t hi (hnd c hn)) hn, fun i c t hi hn v hv => ?_, fun i rows g z t hi => h.lies.lst i rows g z t (hget i _ t hi (hld rows g z))⟩, by simpa using h.mle, fun i hi => ?_, h.ext, h.low, fun i h1 h2 => h.own i h1 (by simpa using h2), fun i j h1 h2 h3 l1 l2 => ?_, fun i hi => h.up i (by simpa using hi), h.below⟩
 ·rw [List.length_set]; exact h.lies.sc i c t (hget i c t hi (hnd c hn)) hn v hv
 ·rw [List.getElem?_set_ne (by omega)]; exact h.pre i hi
 ·simp only [List.length_set] at h3
  exact h.inj i j h1 h2 h3 (hliv i (by omega) l1) (hliv j h3 l2)
end Go.RX
