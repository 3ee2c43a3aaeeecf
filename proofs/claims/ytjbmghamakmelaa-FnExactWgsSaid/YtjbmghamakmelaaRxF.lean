/- Codes between Lean's data and Go's values; tables of contracts; the printed functions' words. -/
import Derived.Test.YtjbmghamakmelaaRxE
set_option linter.unusedSimpArgs false
set_option linter.unusedVariables false
namespace Go.RX
open Go.RowKit

/-! ### Whole numbers as Go keeps them -/
abbrev w64 (n : Int) : Int := IntKind.wrap .i64 n
abbrev u64 (n : Int) : Int := IntKind.wrap .u64 n
abbrev w32 (n : Int) : Int := IntKind.wrap .i32 n
abbrev u32 (n : Int) : Int := IntKind.wrap .u32 n
abbrev u8 (n : Int) : Int := IntKind.wrap .u8 n
abbrev w8 (n : Int) : Int := IntKind.wrap .i8 n
def andI (k : IntKind) (x y : Int) : Int := k.wrap ((BitVec.ofInt k.bits x &&& BitVec.ofInt k.bits y).toNat)
def orI (k : IntKind) (x y : Int) : Int := k.wrap ((BitVec.ofInt k.bits x ||| BitVec.ofInt k.bits y).toNat)
def xorI (k : IntKind) (x y : Int) : Int := k.wrap ((BitVec.ofInt k.bits x ^^^ BitVec.ofInt k.bits y).toNat)
def andNotI (k : IntKind) (x y : Int) : Int := k.wrap ((BitVec.ofInt k.bits x &&& ~~~BitVec.ofInt k.bits y).toNat)
def mxI (x y : Int) : Int := if y > x then y else x
def mnI (x y : Int) : Int := if y < x then y else x

/-! ### Structs -/
structure Iv where
  lo : Int
  hi : Int
structure Wd where
  hi : Int
  lo : Int
structure V3 where
  x : Iv
  y : Iv
  z : Iv
structure M3 where
  a : V3
  b : V3
  c : V3
structure Pt where
  lat : Int
  lon : Int
structure El where
  a : Int
  num : Int
  den : Int
theorem Iv.eta (a : Iv) : a = ⟨a.lo, a.hi⟩ := rfl
theorem Iv.ext' {a b : Iv} (h1 : a.lo = b.lo) (h2 : a.hi = b.hi) : a = b := by cases a; cases b; simp_all

/-! ### Codes -/
structure Cod (α : Type) where
  enc : α → Value
  dec : Value → Option α
  ok : ∀ v a, dec v = some a → v = enc a
  plain : ∀ a, plain (enc a) = true

def cInt (k : IntKind) : Cod Int where
  enc n := .int k n
  dec v := match v with | .int k' n => (match decide (k' = k) with | true => some n | false => none) | _ => none
  ok v a h := by
    split at h
    case h_2 => simp at h
    split at h
    case h_2 => simp at h
    rename_i hk
    simp only [decide_eq_true_eq] at hk
    simp only [Option.some.injEq] at h
    subst hk h
    rfl
  plain _ := rfl
def cBool : Cod Bool where
  enc b := .bool b
  dec v := match v with | .bool b => some b | _ => none
  ok v a h := by split at h <;> simp_all
  plain _ := rfl
def cStr : Cod ByteArray where
  enc b := .string b
  dec v := match v with | .string b => some b | _ => none
  ok v a h := by split at h <;> simp_all
  plain _ := rfl
/-- A function without captures, called as a value. -/
def cFn (k : Nat) : Cod Unit where
  enc _ := .func (.func k) #[] #[]
  dec v := match v with | .func (.func g) ⟨[]⟩ ⟨[]⟩ => (match Nat.beq g k with | true => some () | false => none) | _ => none
  ok v a h := by
    split at h
    case h_2 => simp at h
    split at h
    case h_2 => simp at h
    rename_i hg
    rw [Nat.eq_of_beq_eq_true hg]
  plain _ := rfl

/-- A list of cells, each a whole number of its kind. -/
def intsOf : List IntKind → List Value → Option (List Int)
  | [], [] => some []
  | k :: ks, .int k' n :: vs => match decide (k' = k) with
    | true => (match intsOf ks vs with | some ns => some (n :: ns) | none => none)
    | false => none
  | _, _ => none
def intsV : List IntKind → List Int → List Value
  | k :: ks, n :: ns => .int k n :: intsV ks ns
  | _, _ => []
theorem intsOf_ok : ∀ (ks : List IntKind) (vs : List Value) (ns : List Int), intsOf ks vs = some ns → vs = intsV ks ns ∧ ns.length = ks.length
  | [], [], ns, h => by simp only [intsOf, Option.some.injEq] at h; subst h; exact ⟨rfl, rfl⟩
  | k :: ks, v :: vs, ns, h => by
    cases v <;> simp only [intsOf, reduceCtorEq] at h
    rename_i k' n
    split at h
    case h_2 => simp at h
    rename_i hk
    simp only [decide_eq_true_eq] at hk
    subst hk
    split at h
    case h_2 => simp at h
    rename_i ns' hn
    simp only [Option.some.injEq] at h
    subst h
    obtain ⟨h1, h2⟩ := intsOf_ok ks vs ns' hn
    exact ⟨by simp [intsV, h1], by simp [h2]⟩
  | [], _ :: _, ns, h => by simp [intsOf] at h
  | _ :: _, [], ns, h => by simp [intsOf] at h

def k2 : List IntKind := [.i64, .i64]
def k6 : List IntKind := [.i64, .i64, .i64, .i64, .i64, .i64]
def k18 : List IntKind := [.i64, .i64, .i64, .i64, .i64, .i64, .i64, .i64, .i64, .i64, .i64, .i64, .i64, .i64, .i64, .i64, .i64, .i64]

def cIv : Cod Iv where
  enc a := .agg #[.int .i64 a.lo, .int .i64 a.hi]
  dec v := match v with | .agg ⟨l⟩ => (match intsOf k2 l with | some [x, y] => some ⟨x, y⟩ | _ => none) | _ => none
  ok v a h := by
    split at h
    case h_2 => simp at h
    split at h
    case h_2 => simp at h
    rename_i hl
    obtain ⟨h1, _⟩ := intsOf_ok _ _ _ hl
    simp only [Option.some.injEq] at h
    subst h h1
    rfl
  plain _ := rfl
def cPt : Cod Pt where
  enc a := .agg #[.int .i64 a.lat, .int .i64 a.lon]
  dec v := match v with | .agg ⟨l⟩ => (match intsOf k2 l with | some [x, y] => some ⟨x, y⟩ | _ => none) | _ => none
  ok v a h := by
    split at h
    case h_2 => simp at h
    split at h
    case h_2 => simp at h
    rename_i hl
    obtain ⟨h1, _⟩ := intsOf_ok _ _ _ hl
    simp only [Option.some.injEq] at h
    subst h h1
    rfl
  plain _ := rfl
def cWd : Cod Wd where
  enc a := .agg #[.int .i64 a.hi, .int .u64 a.lo]
  dec v := match v with | .agg ⟨l⟩ => (match intsOf [.i64, .u64] l with | some [x, y] => some ⟨x, y⟩ | _ => none) | _ => none
  ok v a h := by
    split at h
    case h_2 => simp at h
    split at h
    case h_2 => simp at h
    rename_i hl
    obtain ⟨h1, _⟩ := intsOf_ok _ _ _ hl
    simp only [Option.some.injEq] at h
    subst h h1
    rfl
  plain _ := rfl
def cEl : Cod El where
  enc a := .agg #[.int .i64 a.a, .int .i64 a.num, .int .i64 a.den]
  dec v := match v with | .agg ⟨l⟩ => (match intsOf [.i64, .i64, .i64] l with | some [x, y, z] => some ⟨x, y, z⟩ | _ => none) | _ => none
  ok v a h := by
    split at h
    case h_2 => simp at h
    split at h
    case h_2 => simp at h
    rename_i hl
    obtain ⟨h1, _⟩ := intsOf_ok _ _ _ hl
    simp only [Option.some.injEq] at h
    subst h h1
    rfl
  plain _ := rfl
def cV3 : Cod V3 where
  enc a := .agg #[.int .i64 a.x.lo, .int .i64 a.x.hi, .int .i64 a.y.lo, .int .i64 a.y.hi, .int .i64 a.z.lo, .int .i64 a.z.hi]
  dec v := match v with | .agg ⟨l⟩ => (match intsOf k6 l with | some [a, b, c, d, e, f] => some ⟨⟨a, b⟩, ⟨c, d⟩, ⟨e, f⟩⟩ | _ => none) | _ => none
  ok v a h := by
    split at h
    case h_2 => simp at h
    split at h
    case h_2 => simp at h
    rename_i hl
    obtain ⟨h1, _⟩ := intsOf_ok _ _ _ hl
    simp only [Option.some.injEq] at h
    subst h h1
    rfl
  plain _ := rfl
def cM3 : Cod M3 where
  enc m := .agg #[.int .i64 m.a.x.lo, .int .i64 m.a.x.hi, .int .i64 m.a.y.lo, .int .i64 m.a.y.hi, .int .i64 m.a.z.lo, .int .i64 m.a.z.hi,
    .int .i64 m.b.x.lo, .int .i64 m.b.x.hi, .int .i64 m.b.y.lo, .int .i64 m.b.y.hi, .int .i64 m.b.z.lo, .int .i64 m.b.z.hi,
    .int .i64 m.c.x.lo, .int .i64 m.c.x.hi, .int .i64 m.c.y.lo, .int .i64 m.c.y.hi, .int .i64 m.c.z.lo, .int .i64 m.c.z.hi]
  dec v := match v with
    | .agg ⟨cs⟩ => (match intsOf k18 cs with
      | some [a, b, c, d, e, f, g, h, i, j, k, l, m, n, o, p, q, r] => some ⟨⟨⟨a, b⟩, ⟨c, d⟩, ⟨e, f⟩⟩, ⟨⟨g, h⟩, ⟨i, j⟩, ⟨k, l⟩⟩, ⟨⟨m, n⟩, ⟨o, p⟩, ⟨q, r⟩⟩⟩
      | _ => none)
    | _ => none
  ok v a h := by
    split at h
    case h_2 => simp at h
    split at h
    case h_2 => simp at h
    rename_i hl
    obtain ⟨h1, _⟩ := intsOf_ok _ _ _ hl
    simp only [Option.some.injEq] at h
    subst h h1
    rfl
  plain _ := rfl
/-- Two results, three results. -/
def cT2 {α β : Type} (a : Cod α) (b : Cod β) : Cod (α × β) where
  enc p := .tuple #[a.enc p.1, b.enc p.2]
  dec v := match v with | .tuple ⟨[x, y]⟩ => (match a.dec x, b.dec y with | some p, some q => some (p, q) | _, _ => none) | _ => none
  ok v p h := by
    split at h
    case h_2 => simp at h
    split at h
    case h_2 => simp at h
    rename_i h1 h2
    simp only [Option.some.injEq] at h
    subst h
    rw [a.ok _ _ h1, b.ok _ _ h2]
  plain _ := rfl
def cT3 {α β γ : Type} (a : Cod α) (b : Cod β) (c : Cod γ) : Cod (α × β × γ) where
  enc p := .tuple #[a.enc p.1, b.enc p.2.1, c.enc p.2.2]
  dec v := match v with | .tuple ⟨[x, y, z]⟩ => (match a.dec x, b.dec y, c.dec z with | some p, some q, some r => some (p, q, r) | _, _, _ => none) | _ => none
  ok v p h := by
    split at h
    case h_2 => simp at h
    split at h
    case h_2 => simp at h
    rename_i h1 h2 h3
    simp only [Option.some.injEq] at h
    subst h
    rw [a.ok _ _ h1, b.ok _ _ h2, c.ok _ _ h3]
  plain _ := rfl

/-! ### Tables of contracts -/
structure Entry (P : Program) where
  g : FuncId
  f : List Value → LH → Option (Value × LH)
  ok : ∀ args σ v σ', f args σ = some (v, σ') → Gives P g args σ v σ'

def tab {P : Program} : List (Entry P) → Tab
  | [], _, _, _ => none
  | e :: r, g, args, σ => match Nat.beq e.g g with
    | true => e.f args σ
    | false => tab r g args σ

theorem tab_ok {P : Program} : ∀ (l : List (Entry P)), Tab.Ok P (tab l)
  | [], g, args, σ, v, σ', h => by simp [tab] at h
  | e :: r, g, args, σ, v, σ', h => by
    simp only [tab] at h
    split at h
    · rename_i hg
      rw [← Nat.eq_of_beq_eq_true hg]
      exact e.ok _ _ _ _ h
    · exact tab_ok r g args σ v σ' h

/-- Memory that a call doesn't see is of no matter to it. -/
theorem givesV_of {P : Program} {g : FuncId} {args : List Value} {v : Value} (ha : args.all plain = true) (hv : plain v = true) (h : Gives P g args [] v []) : GivesV P g args v := by
  intro σ
  simp only [List.all_eq_true] at ha
  refine ⟨h.1, fun β w hl _ => ?_⟩
  have h0 : Lies β [] w := ⟨fun i c t hi => by simp at hi, fun i c t hi => by simp at hi⟩
  refine (h.2 β w h0 fun x hx => plain_inn (ha x hx)).mono ?_
  rintro e w' ⟨β', rfl, _, hp⟩
  refine ⟨β, by rw [rl_plain hv, rl_plain hv], plain_inn hv, ?_⟩
  exact (Hp.start hl).past hp.below

/-- A contract out of the interpreter's word. -/
theorem givesT {P : Program} (hm : P.follows .mixedOrders = true) (es : List (Entry P)) {g : FuncId} {fn : Func} (N : Nat) {args : List Value} {α : Type} {c : Cod α} {r : α}
    (hf : P.funcs[g]? = some fn) (hname : (fn.name == "runtime.NumGoroutine") = false) (ha : args.all plain = true) (h : run1 P (tab es) N fn args [] = some (c.enc r, [])) :
    GivesV P g args (c.enc r) := givesV_of ha (c.plain r) (gives hm (tab_ok es) hf hname h)

/-- A callee that is walked in place (it is handed a function, or memory). -/
def inl {P : Program} (hm : P.follows .mixedOrders = true) (es : List (Entry P)) (N : Nat) (g : FuncId) (fn : Func) (hf : P.funcs[g]? = some fn) (hname : (fn.name == "runtime.NumGoroutine") = false) : Entry P where
  g := g
  f args σ := run1 P (tab es) N fn args σ
  ok args σ v σ' h := gives hm (tab_ok es) hf hname h

def entry0 {P : Program} {ρ : Type} (c : Cod ρ) (g : FuncId) (f : ρ) (h : GivesV P g [] (c.enc f)) : Entry P where
  g := g
  f args σ := match args with | [] => some (c.enc f, σ) | _ => none
  ok args σ v σ' hh := by
    split at hh
    case h_2 => simp at hh
    simp only [Option.some.injEq, Prod.mk.injEq] at hh
    obtain ⟨rfl, rfl⟩ := hh
    exact h σ
def entry1 {P : Program} {α ρ : Type} (ca : Cod α) (c : Cod ρ) (g : FuncId) (f : α → ρ) (h : ∀ a, GivesV P g [ca.enc a] (c.enc (f a))) : Entry P where
  g := g
  f args σ := match args with | [x] => (match ca.dec x with | some a => some (c.enc (f a), σ) | none => none) | _ => none
  ok args σ v σ' hh := by
    split at hh
    case h_2 => simp at hh
    split at hh
    case h_2 => simp at hh
    rename_i ha
    simp only [Option.some.injEq, Prod.mk.injEq] at hh
    obtain ⟨rfl, rfl⟩ := hh
    rw [ca.ok _ _ ha]
    exact h _ σ
def entry2 {P : Program} {α β ρ : Type} (ca : Cod α) (cb : Cod β) (c : Cod ρ) (g : FuncId) (f : α → β → ρ) (h : ∀ a b, GivesV P g [ca.enc a, cb.enc b] (c.enc (f a b))) : Entry P where
  g := g
  f args σ := match args with | [x, y] => (match ca.dec x, cb.dec y with | some a, some b => some (c.enc (f a b), σ) | _, _ => none) | _ => none
  ok args σ v σ' hh := by
    split at hh
    case h_2 => simp at hh
    split at hh
    case h_2 => simp at hh
    rename_i ha hb
    simp only [Option.some.injEq, Prod.mk.injEq] at hh
    obtain ⟨rfl, rfl⟩ := hh
    rw [ca.ok _ _ ha, cb.ok _ _ hb]
    exact h _ _ σ
def entry3 {P : Program} {α β γ ρ : Type} (ca : Cod α) (cb : Cod β) (cc : Cod γ) (c : Cod ρ) (g : FuncId) (f : α → β → γ → ρ) (h : ∀ a b d, GivesV P g [ca.enc a, cb.enc b, cc.enc d] (c.enc (f a b d))) : Entry P where
  g := g
  f args σ := match args with | [x, y, z] => (match ca.dec x, cb.dec y, cc.dec z with | some a, some b, some d => some (c.enc (f a b d), σ) | _, _, _ => none) | _ => none
  ok args σ v σ' hh := by
    split at hh
    case h_2 => simp at hh
    split at hh
    case h_2 => simp at hh
    rename_i ha hb hc
    simp only [Option.some.injEq, Prod.mk.injEq] at hh
    obtain ⟨rfl, rfl⟩ := hh
    rw [ca.ok _ _ ha, cb.ok _ _ hb, cc.ok _ _ hc]
    exact h _ _ _ σ
def entry4 {P : Program} {α β γ δ ρ : Type} (ca : Cod α) (cb : Cod β) (cc : Cod γ) (cd : Cod δ) (c : Cod ρ) (g : FuncId) (f : α → β → γ → δ → ρ) (h : ∀ a b d e, GivesV P g [ca.enc a, cb.enc b, cc.enc d, cd.enc e] (c.enc (f a b d e))) : Entry P where
  g := g
  f args σ := match args with | [x, y, z, u] => (match ca.dec x, cb.dec y, cc.dec z, cd.dec u with | some a, some b, some d, some e => some (c.enc (f a b d e), σ) | _, _, _, _ => none) | _ => none
  ok args σ v σ' hh := by
    split at hh
    case h_2 => simp at hh
    split at hh
    case h_2 => simp at hh
    rename_i ha hb hc hd
    simp only [Option.some.injEq, Prod.mk.injEq] at hh
    obtain ⟨rfl, rfl⟩ := hh
    rw [ca.ok _ _ ha, cb.ok _ _ hb, cc.ok _ _ hc, cd.ok _ _ hd]
    exact h _ _ _ _ σ
/-- The same under a condition on what goes in. -/
def entry3P {P : Program} {α β γ ρ : Type} (ca : Cod α) (cb : Cod β) (cc : Cod γ) (c : Cod ρ) (g : FuncId) (f : α → β → γ → ρ) (p : α → β → γ → Bool) (h : ∀ a b d, p a b d = true → GivesV P g [ca.enc a, cb.enc b, cc.enc d] (c.enc (f a b d))) : Entry P where
  g := g
  f args σ := match args with
    | [x, y, z] => (match ca.dec x, cb.dec y, cc.dec z with
      | some a, some b, some d => (match p a b d with | true => some (c.enc (f a b d), σ) | false => none)
      | _, _, _ => none)
    | _ => none
  ok args σ v σ' hh := by
    split at hh
    case h_2 => simp at hh
    split at hh
    case h_2 => simp at hh
    rename_i ha hb hc
    split at hh
    case h_2 => simp at hh
    rename_i hp
    simp only [Option.some.injEq, Prod.mk.injEq] at hh
    obtain ⟨rfl, rfl⟩ := hh
    rw [ca.ok _ _ ha, cb.ok _ _ hb, cc.ok _ _ hc]
    exact h _ _ _ hp σ

/-! ### Trees of tests -/
theorem cq {α ρ : Type} {c : Bool} {K : α → Option ρ} {A B : Option ρ} {x y : α} (hA : c = true → A = K x) (hB : c = false → B = K y) : (bif c then A else B) = K (bif c then x else y) := by
  cases c
  · exact hB rfl
  · exact hA rfl
/-- A way that is not taken. -/
theorem cqF {α ρ : Type} {c : Bool} {K : α → Option ρ} {B : Option ρ} {y : α} (hc : c = false) (hB : c = false → B = K y) : (bif c then none else B) = K y := by subst hc; exact hB rfl
theorem cqT {α ρ : Type} {c : Bool} {K : α → Option ρ} {A : Option ρ} {x : α} (hc : c = true) (hA : c = true → A = K x) : (bif c then A else none) = K x := by subst hc; exact hA rfl

end Go.RX
