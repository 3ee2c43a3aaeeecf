/- Codes between Lean's data and Go's values; tables of contracts; the printed functions' words. -/
import Derived.Test.YtogpbandlpjccaaGreatDoorRxE
set_option linter.unusedSimpArgs false
set_option linter.unusedVariables false
namespace Go.RX
open Go.RowKit
abbrev w64 (n : Int) : Int := IntKind.wrap .i64 n
abbrev u64 (n : Int) : Int := IntKind.wrap .u64 n
abbrev w32 (n : Int) : Int := IntKind.wrap .i32 n
abbrev u8 (n : Int) : Int := IntKind.wrap .u8 n
abbrev w8 (n : Int) : Int := IntKind.wrap .i8 n
def andI (k : IntKind) (x y : Int) : Int := k.wrap ((BitVec.ofInt k.bits x &&& BitVec.ofInt k.bits y).toNat)
def orI (k : IntKind) (x y : Int) : Int := k.wrap ((BitVec.ofInt k.bits x ||| BitVec.ofInt k.bits y).toNat)
def xorI (k : IntKind) (x y : Int) : Int := k.wrap ((BitVec.ofInt k.bits x ^^^ BitVec.ofInt k.bits y).toNat)
def mxI (x y : Int) : Int := if y > x then y else x
def mnI (x y : Int) : Int := if y < x then y else x
structure Iv where
 lo : Int
 hi : Int
structure Wd where
 hi : Int
 lo : Int
structure Pt where
 lat : Int
 lon : Int
structure El where
 a : Int
 num : Int
 den : Int
structure Cod (α : Type) where
 enc : α → Value
 dec : Value → Option α
 ok : ∀ v a, dec v = some a → v = enc a
 plain : ∀ a, plain (enc a) = true
def cInt (k : IntKind) : Cod Int where
 enc n := .int k n
 dec v := match v with | .int k' n => (match decide (k' = k) with | true => some n | false => none) | _ => none
 ok v a h := by
  split at h
  case h_2 => simp at h
  split at h
  case h_2 => simp at h
  rename_i hk
  simp only [decide_eq_true_eq] at hk
  simp only [Option.some.injEq] at h
  subst hk h
  rfl
 plain _ := rfl
def cBool : Cod Bool where
 enc b := .bool b
 dec v := match v with | .bool b => some b | _ => none
 ok v a h := by split at h <;> simp_all
 plain _ := rfl
def cStr : Cod ByteArray where
 enc b := .string b
 dec v := match v with | .string b => some b | _ => none
 ok v a h := by split at h <;> simp_all
 plain _ := rfl
def cFn (k : Nat) : Cod Unit where
 enc _ := .func (.func k) #[] #[]
 dec v := match v with | .func (.func g) ⟨[]⟩ ⟨[]⟩ => (match Nat.beq g k with | true => some () | false => none) | _ => none
 ok v a h := by
  split at h
  case h_2 => simp at h
  split at h
  case h_2 => simp at h
  rename_i hg
  rw [Nat.eq_of_beq_eq_true hg]
 plain _ := rfl
def intsOf : List IntKind → List Value → Option (List Int)
 | [], [] => some []
 | k :: ks, .int k' n :: vs => match decide (k' = k) with
  | true => (match intsOf ks vs with | some ns => some (n :: ns) | none => none)
  | false => none
 | _, _ => none
def intsV : List IntKind → List Int → List Value
 | k :: ks, n :: ns => .int k n :: intsV ks ns
 | _, _ => []
theorem intsOf_ok : ∀ (ks : List IntKind) (vs : List Value) (ns : List Int), intsOf ks vs = some ns → vs = intsV ks ns ∧ ns.length = ks.length
 | [], [], ns, h => by simp only [intsOf, Option.some.injEq] at h; subst h; exact ⟨rfl, rfl⟩
 | k :: ks, v :: vs, ns, h => by
  cases v <;> simp only [intsOf, reduceCtorEq] at h
  rename_i k' n
  split at h
  case h_2 => simp at h
  rename_i hk
  simp only [decide_eq_true_eq] at hk
  subst hk
  split at h
  case h_2 => simp at h
  rename_i ns' hn
  simp only [Option.some.injEq] at h
  subst h
  obtain ⟨h1, h2⟩ := intsOf_ok ks vs ns' hn
  exact ⟨by simp [intsV, h1], by simp [h2]⟩
 | [], _ :: _, ns, h => by simp [intsOf] at h
 | _ :: _, [], ns, h => by simp [intsOf] at h
def k2 : List IntKind := [.i64, .i64]
def k6 : List IntKind := [.i64, .i64, .i64, .i64, .i64, .i64]
def cIv : Cod Iv where
 enc a := .agg #[.int .i64 a.lo, .int .i64 a.hi]
 dec v := match v with | .agg ⟨l⟩ => (match intsOf k2 l with | some [x, y] => some ⟨x, y⟩ | _ => none) | _ => none
 ok v a h := by
  split at h
  case h_2 => simp at h
  split at h
  case h_2 => simp at h
  rename_i hl
  obtain ⟨h1, _⟩ := intsOf_ok _ _ _ hl
  simp only [Option.some.injEq] at h
  subst h h1
  rfl
 plain _ := rfl
def cPt : Cod Pt where
 enc a := .agg #[.int .i64 a.lat, .int .i64 a.lon]
 dec v := match v with | .agg ⟨l⟩ => (match intsOf k2 l with | some [x, y] => some ⟨x, y⟩ | _ => none) | _ => none
 ok v a h := by
  split at h
  case h_2 => simp at h
  split at h
  case h_2 => simp at h
  rename_i hl
  obtain ⟨h1, _⟩ := intsOf_ok _ _ _ hl
  simp only [Option.some.injEq] at h
  subst h h1
  rfl
 plain _ := rfl
def cWd : Cod Wd where
 enc a := .agg #[.int .i64 a.hi, .int .u64 a.lo]
 dec v := match v with | .agg ⟨l⟩ => (match intsOf [.i64, .u64] l with | some [x, y] => some ⟨x, y⟩ | _ => none) | _ => none
 ok v a h := by
  split at h
  case h_2 => simp at h
  split at h
  case h_2 => simp at h
  rename_i hl
  obtain ⟨h1, _⟩ := intsOf_ok _ _ _ hl
  simp only [Option.some.injEq] at h
  subst h h1
  rfl
 plain _ := rfl
def cEl : Cod El where
 enc a := .agg #[.int .i64 a.a, .int .i64 a.num, .int .i64 a.den]
 dec v := match v with | .agg ⟨l⟩ => (match intsOf [.i64, .i64, .i64] l with | some [x, y, z] => some ⟨x, y, z⟩ | _ => none) | _ => none
 ok v a h := by
  split at h
  case h_2 => simp at h
  split at h
  case h_2 => simp at h
  rename_i hl
  obtain ⟨h1, _⟩ := intsOf_ok _ _ _ hl
  simp only [Option.some.injEq] at h
  subst h h1
  rfl
 plain _ := rfl
def cT2 {α β : Type} (a : Cod α) (b : Cod β) : Cod (α × β) where
 enc p := .tuple #[a.enc p.1, b.enc p.2]
 dec v := match v with | .tuple ⟨[x, y]⟩ => (match a.dec x, b.dec y with | some p, some q => some (p, q) | _, _ => none) | _ => none
 ok v p h := by
  split at h
  case h_2 => simp at h
  split at h
  case h_2 => simp at h
  rename_i h1 h2
  simp only [Option.some.injEq] at h
  subst h
  rw [a.ok _ _ h1, b.ok _ _ h2]
 plain p := by simp [RX.plain, plain_plain0 (a.plain p.1), plain_plain0 (b.plain p.2)]
def cT3 {α β γ : Type} (a : Cod α) (b : Cod β) (c : Cod γ) : Cod (α × β × γ) where
 enc p := .tuple #[a.enc p.1, b.enc p.2.1, c.enc p.2.2]
 dec v := match v with | .tuple ⟨[x, y, z]⟩ => (match a.dec x, b.dec y, c.dec z with | some p, some q, some r => some (p, q, r) | _, _, _ => none) | _ => none
 ok v p h := by
  split at h
  case h_2 => simp at h
  split at h
  case h_2 => simp at h
  rename_i h1 h2 h3
  simp only [Option.some.injEq] at h
  subst h
  rw [a.ok _ _ h1, b.ok _ _ h2, c.ok _ _ h3]
 plain p := by simp [RX.plain, plain_plain0 (a.plain p.1), plain_plain0 (b.plain p.2.1), plain_plain0 (c.plain p.2.2)]
structure EntryU (P : Program) (T : Prem) where
 g : FuncId
 f : ∀ (R : Type), Nat → List Value → LH → (Value → LH → Bool → Option R) → Option R
 free : Bool
 ok : ∀ (W : World), T.T W → ∀ (R : Type) m args σ (K : Value → LH → Bool → Option R) r, f R m args σ K = some r →
  ∃ v σ' b, K v σ' b = some r ∧ (∀ (S : Type) (K' : Value → LH → Bool → Option S), f S m args σ K' = K' v σ' b) ∧ (GivesW P W m g args σ v σ' b ∨ (σ' = σ ∧ Ext P g args v))
 mono : free = true → ∀ (R : Type) m args σ (K : Value → LH → Bool → Option R) r, f R m args σ K = some r →
  ∃ v, ∀ (bs : LH) (S : Type) (K' : Value → LH → Bool → Option S), f S m args (σ ++ bs) K' = K' v (σ ++ bs) true
abbrev Entry (P : Program) := EntryU P Prem.none
def tabF {P : Program} {T : Prem} : List (EntryU P T) → ∀ (R : Type), Nat → FuncId → List Value → LH → (Value → LH → Bool → Option R) → Option R
 | [] => fun _ _ _ _ _ _ => none
 | e :: r => fun R m g args σ K => match Nat.beq e.g g with
  | true => e.f R m args σ K
  | false => tabF r R m g args σ K
def tabFree {P : Program} {T : Prem} : List (EntryU P T) → FuncId → Bool
 | [], _ => false
 | e :: r, g => match Nat.beq e.g g with
  | true => e.free
  | false => tabFree r g
def tab {P : Program} {T : Prem} (l : List (EntryU P T)) : Tab := ⟨tabF l, tabFree l⟩
theorem tabF_ok {P : Program} {T : Prem} {W : World} (hT : T.T W) : ∀ (l : List (EntryU P T)) (R : Type) m g args σ (K : Value → LH → Bool → Option R) r, tabF l R m g args σ K = some r →
  ∃ v σ' b, K v σ' b = some r ∧ (∀ (S : Type) (K' : Value → LH → Bool → Option S), tabF l S m g args σ K' = K' v σ' b) ∧ (GivesW P W m g args σ v σ' b ∨ (σ' = σ ∧ Ext P g args v))
 | [], R, m, g, args, σ, K, r, h => by simp [tabF] at h
 | e :: l, R, m, g, args, σ, K, r, h => by
  simp only [tabF] at h
  split at h
  ·rename_i hg
   obtain ⟨v, σ', b, h1, h2, h3⟩ := e.ok W hT _ _ _ _ _ _ h
   refine ⟨v, σ', b, h1, fun S K' => ?_, ?_⟩
   ·simp only [tabF, hg]; exact h2 S K'
   ·rw [← Nat.eq_of_beq_eq_true hg]; exact h3
  ·rename_i hg
   obtain ⟨v, σ', b, h1, h2, h3⟩ := tabF_ok hT l R m g args σ K r h
   exact ⟨v, σ', b, h1, fun S K' => by simp only [tabF, hg]; exact h2 S K', h3⟩
theorem tabF_free {P : Program} {T : Prem} : ∀ (l : List (EntryU P T)) (R : Type) m g args σ (K : Value → LH → Bool → Option R) r, tabFree l g = true → tabF l R m g args σ K = some r →
  ∃ v, ∀ (bs : LH) (S : Type) (K' : Value → LH → Bool → Option S), tabF l S m g args (σ ++ bs) K' = K' v (σ ++ bs) true
 | [], R, m, g, args, σ, K, r, hf, h => by simp [tabF] at h
 | e :: l, R, m, g, args, σ, K, r, hf, h => by
  simp only [tabF] at h
  simp only [tabFree] at hf
  split at h
  ·rename_i hg
   rw [hg] at hf
   obtain ⟨v, hv⟩ := e.mono hf _ _ _ _ _ _ h
   exact ⟨v, fun bs S K' => by simp only [tabF, hg]; exact hv bs S K'⟩
  ·rename_i hg
   rw [hg] at hf
   obtain ⟨v, hv⟩ := tabF_free l R m g args σ K r hf h
   exact ⟨v, fun bs S K' => by simp only [tabF, hg]; exact hv bs S K'⟩
theorem tab_ok {P : Program} {T : Prem} (l : List (EntryU P T)) {W : World} (hT : T.T W) : Tab.Ok P (tab l) W := ⟨fun R m g args σ K r h => tabF_ok hT l R m g args σ K r h, fun R m g args σ K r hf h => tabF_free l R m g args σ K r hf h⟩
theorem givesV_of {P : Program} {T : Prem} {g : FuncId} {args : List Value} {v : Value} (ha : args.all plain = true) (hv : plain v = true) (h : GivesU P T g args [] v []) : GivesVU P T g args v := by
 intro σ
 simp only [List.all_eq_true] at ha
 refine ⟨h.1, fun β w hTw hl hwi _ => ?_⟩
 have h0 : Lies β [] w := ⟨fun i c t hi => by simp at hi, fun i c t hi => by simp at hi, fun i rows g z t hi => by simp at hi⟩
 refine (h.2 β w hTw h0 (fun i hi => by simp at hi) fun x hx => plain_inn (ha x hx)).mono ?_
 rintro e w' ⟨β', rfl, _, hp⟩
 refine ⟨β, by rw [rl_plain hv, rl_plain hv], plain_inn hv, ?_⟩
 exact (Hp.start hl hwi).past hp.below
theorem givesT {P : Program} (hm : P.follows .mixedOrders = true) {T : Prem} (es : List (EntryU P T)) {g : FuncId} {fn : Func} (N : Nat) (ls : Option (List Nat)) {args : List Value} {α : Type} {c : Cod α} {r : α}
  (hf : P.funcs[g]? = some fn) (hname : (fn.name == "runtime.NumGoroutine") = false) (ha : args.all plain = true) (h : run1 P (tab es) N ls noL fn args [] = some (c.enc r, [])) :
  GivesVU P T g args (c.enc r) := givesV_of ha (c.plain r) (gives hm (fun _ => tab_ok es) hf hname (fun _ _ => noL_ok) h)
theorem givesL {P : Program} (hm : P.follows .mixedOrders = true) {T : Prem} (es : List (EntryU P T)) {g : FuncId} {fn : Func} (N : Nat) (ls : Option (List Nat)) (Λ : Lam) {args : List Value} {α : Type} {c : Cod α} {r : α}
  (hf : P.funcs[g]? = some fn) (hname : (fn.name == "runtime.NumGoroutine") = false) (ha : args.all plain = true) (hL : ∀ c, fn.body = some c → LamOk P (tab es) 0 fn.ntmps N ls Λ (loopsOf c))
  (h : run1 P (tab es) N ls Λ fn args [] = some (c.enc r, [])) : GivesVU P T g args (c.enc r) := givesV_of ha (c.plain r) (gives hm (fun _ => tab_ok es) hf hname hL h)
def inl {P : Program} (hm : P.follows .mixedOrders = true) {T : Prem} (es : List (EntryU P T)) (N : Nat) (g : FuncId) (fn : Func) (hf : P.funcs[g]? = some fn) (hname : (fn.name == "runtime.NumGoroutine") = false) : EntryU P T where
 g := g
 free := false
 mono h := by cases h
 f _ _ args σ K := runK P (tab es) N none noL fn args σ.length σ fun v σ' => match plain v with
  | true => K v σ true
  | false => K v σ' true
 ok W hT R m args σ K r h := by
  obtain ⟨v, σ', hk, hall⟩ := runK_val (tab_ok es hT) h
  have hr : run1 P (tab es) N none noL fn args σ = match plain v with | true => some (v, σ) | false => some (v, σ') := by
   unfold run1
   exact hall _ _
  split at hk
  ·rename_i hp
   simp only [hp] at hr
   exact ⟨v, σ, true, hk, fun S K' => (by rw [hall]; simp only [hp]), Or.inl ((gives hm (fun _ => tab_ok es) hf hname (fun _ _ => noL_ok) hr).wide hT)⟩
  ·rename_i hp
   simp only [hp] at hr
   exact ⟨v, σ', true, hk, fun S K' => (by rw [hall]; simp only [hp]), Or.inl ((gives hm (fun _ => tab_ok es) hf hname (fun _ _ => noL_ok) hr).wide hT)⟩
def entry0 {P : Program} {T : Prem} {ρ : Type} (c : Cod ρ) (g : FuncId) (f : ρ) (h : GivesVU P T g [] (c.enc f)) : EntryU P T where
 g := g
 f _ _ args σ K := match args with | [] => K (c.enc f) σ true | _ => none
 free := true
 mono _ R m args σ K r hh := by
  split at hh
  case h_2 => simp at hh
  exact ⟨_, fun _ _ _ => rfl⟩
 ok W hT R m args σ K r hh := by
  split at hh
  case h_2 => simp at hh
  exact ⟨_, _, _, hh, fun S K' => rfl, (by exact Or.inl (GivesU.wide (h σ) hT))⟩
def entry1 {P : Program} {T : Prem} {α ρ : Type} (ca : Cod α) (c : Cod ρ) (g : FuncId) (f : α → ρ) (h : ∀ a, GivesVU P T g [ca.enc a] (c.enc (f a))) : EntryU P T where
 g := g
 f _ _ args σ K := match args with | [x] => (match ca.dec x with | some a => K (c.enc (f a)) σ true | _ => none) | _ => none
 free := true
 mono _ R m args σ K r hh := by
  split at hh
  case h_2 => simp at hh
  split at hh
  case h_2 => simp at hh
  rename_i ha
  exact ⟨_, fun _ _ _ => rfl⟩
 ok W hT R m args σ K r hh := by
  split at hh
  case h_2 => simp at hh
  split at hh
  case h_2 => simp at hh
  rename_i ha
  exact ⟨_, _, _, hh, fun S K' => by simp only [ha], (by rw [ca.ok _ _ ha]; exact Or.inl (GivesU.wide (h _ σ) hT))⟩
def entry2 {P : Program} {T : Prem} {α β ρ : Type} (ca : Cod α) (cb : Cod β) (c : Cod ρ) (g : FuncId) (f : α → β → ρ) (h : ∀ a b, GivesVU P T g [ca.enc a, cb.enc b] (c.enc (f a b))) : EntryU P T where
 g := g
 f _ _ args σ K := match args with | [x, y] => (match ca.dec x, cb.dec y with | some a, some b => K (c.enc (f a b)) σ true | _, _ => none) | _ => none
 free := true
 mono _ R m args σ K r hh := by
  split at hh
  case h_2 => simp at hh
  split at hh
  case h_2 => simp at hh
  rename_i ha hb
  exact ⟨_, fun _ _ _ => rfl⟩
 ok W hT R m args σ K r hh := by
  split at hh
  case h_2 => simp at hh
  split at hh
  case h_2 => simp at hh
  rename_i ha hb
  exact ⟨_, _, _, hh, fun S K' => by simp only [ha, hb], (by rw [ca.ok _ _ ha, cb.ok _ _ hb]; exact Or.inl (GivesU.wide (h _ _ σ) hT))⟩
def entry3 {P : Program} {T : Prem} {α β γ ρ : Type} (ca : Cod α) (cb : Cod β) (cc : Cod γ) (c : Cod ρ) (g : FuncId) (f : α → β → γ → ρ) (h : ∀ a b d, GivesVU P T g [ca.enc a, cb.enc b, cc.enc d] (c.enc (f a b d))) : EntryU P T where
 g := g
 f _ _ args σ K := match args with | [x, y, z] => (match ca.dec x, cb.dec y, cc.dec z with | some a, some b, some d => K (c.enc (f a b d)) σ true | _, _, _ => none) | _ => none
 free := true
 mono _ R m args σ K r hh := by
  split at hh
  case h_2 => simp at hh
  split at hh
  case h_2 => simp at hh
  rename_i ha hb hd
  exact ⟨_, fun _ _ _ => rfl⟩
 ok W hT R m args σ K r hh := by
  split at hh
  case h_2 => simp at hh
  split at hh
  case h_2 => simp at hh
  rename_i ha hb hd
  exact ⟨_, _, _, hh, fun S K' => by simp only [ha, hb, hd], (by rw [ca.ok _ _ ha, cb.ok _ _ hb, cc.ok _ _ hd]; exact Or.inl (GivesU.wide (h _ _ _ σ) hT))⟩
def entry1P {P : Program} {T : Prem} {α ρ : Type} (ca : Cod α) (c : Cod ρ) (g : FuncId) (f : α → ρ) (p : α → Bool) (h : ∀ a, p a = true → GivesVU P T g [ca.enc a] (c.enc (f a))) : EntryU P T where
 g := g
 f _ _ args σ K := match args with | [x] => (match ca.dec x with | some a => (match p a with | true => K (c.enc (f a)) σ true | false => none) | _ => none) | _ => none
 free := true
 mono _ R m args σ K r hh := by
  split at hh
  case h_2 => simp at hh
  split at hh
  case h_2 => simp at hh
  rename_i ha
  split at hh
  case h_2 => simp at hh
  rename_i hp
  exact ⟨_, fun _ _ _ => rfl⟩
 ok W hT R m args σ K r hh := by
  split at hh
  case h_2 => simp at hh
  split at hh
  case h_2 => simp at hh
  rename_i ha
  split at hh
  case h_2 => simp at hh
  rename_i hp
  exact ⟨_, _, _, hh, fun S K' => by simp only [ha, hp], (by rw [ca.ok _ _ ha]; exact Or.inl (GivesU.wide (h _ hp σ) hT))⟩
def entry2P {P : Program} {T : Prem} {α β ρ : Type} (ca : Cod α) (cb : Cod β) (c : Cod ρ) (g : FuncId) (f : α → β → ρ) (p : α → β → Bool) (h : ∀ a b, p a b = true → GivesVU P T g [ca.enc a, cb.enc b] (c.enc (f a b))) : EntryU P T where
 g := g
 f _ _ args σ K := match args with | [x, y] => (match ca.dec x, cb.dec y with | some a, some b => (match p a b with | true => K (c.enc (f a b)) σ true | false => none) | _, _ => none) | _ => none
 free := true
 mono _ R m args σ K r hh := by
  split at hh
  case h_2 => simp at hh
  split at hh
  case h_2 => simp at hh
  rename_i ha hb
  split at hh
  case h_2 => simp at hh
  rename_i hp
  exact ⟨_, fun _ _ _ => rfl⟩
 ok W hT R m args σ K r hh := by
  split at hh
  case h_2 => simp at hh
  split at hh
  case h_2 => simp at hh
  rename_i ha hb
  split at hh
  case h_2 => simp at hh
  rename_i hp
  exact ⟨_, _, _, hh, fun S K' => by simp only [ha, hb, hp], (by rw [ca.ok _ _ ha, cb.ok _ _ hb]; exact Or.inl (GivesU.wide (h _ _ hp σ) hT))⟩
def entry3P {P : Program} {T : Prem} {α β γ ρ : Type} (ca : Cod α) (cb : Cod β) (cc : Cod γ) (c : Cod ρ) (g : FuncId) (f : α → β → γ → ρ) (p : α → β → γ → Bool) (h : ∀ a b d, p a b d = true → GivesVU P T g [ca.enc a, cb.enc b, cc.enc d] (c.enc (f a b d))) : EntryU P T where
 g := g
 f _ _ args σ K := match args with | [x, y, z] => (match ca.dec x, cb.dec y, cc.dec z with | some a, some b, some d => (match p a b d with | true => K (c.enc (f a b d)) σ true | false => none) | _, _, _ => none) | _ => none
 free := true
 mono _ R m args σ K r hh := by
  split at hh
  case h_2 => simp at hh
  split at hh
  case h_2 => simp at hh
  rename_i ha hb hd
  split at hh
  case h_2 => simp at hh
  rename_i hp
  exact ⟨_, fun _ _ _ => rfl⟩
 ok W hT R m args σ K r hh := by
  split at hh
  case h_2 => simp at hh
  split at hh
  case h_2 => simp at hh
  rename_i ha hb hd
  split at hh
  case h_2 => simp at hh
  rename_i hp
  exact ⟨_, _, _, hh, fun S K' => by simp only [ha, hb, hd, hp], (by rw [ca.ok _ _ ha, cb.ok _ _ hb, cc.ok _ _ hd]; exact Or.inl (GivesU.wide (h _ _ _ hp σ) hT))⟩
def entryX3 {P : Program} {T : Prem} {α β γ ρ : Type} (ca : Cod α) (cb : Cod β) (cc : Cod γ) (c : Cod ρ) (g : FuncId) (f : α → β → γ → ρ) (p : α → β → γ → Bool) (h : ∀ a b d, p a b d = true → ∀ w, (callFunc g #[ca.enc a, cb.enc b, cc.enc d]).run P w = .ok (.value (c.enc (f a b d))) w) : EntryU P T where
 g := g
 f _ _ args σ K := match args with | [x, y, z] => (match ca.dec x, cb.dec y, cc.dec z with | some a, some b, some d => (match p a b d with | true => K (c.enc (f a b d)) σ true | false => none) | _, _, _ => none) | _ => none
 free := true
 mono _ R m args σ K r hh := by
  split at hh
  case h_2 => simp at hh
  split at hh
  case h_2 => simp at hh
  rename_i ha hb hd
  split at hh
  case h_2 => simp at hh
  rename_i hp
  exact ⟨_, fun _ _ _ => rfl⟩
 ok W hT R m args σ K r hh := by
  split at hh
  case h_2 => simp at hh
  split at hh
  case h_2 => simp at hh
  rename_i ha hb hd
  split at hh
  case h_2 => simp at hh
  rename_i hp
  exact ⟨_, _, _, hh, fun S K' => by simp only [ha, hb, hd, hp], (by rw [ca.ok _ _ ha, cb.ok _ _ hb, cc.ok _ _ hd]; exact Or.inr ⟨rfl, by simp [ca.plain, cb.plain, cc.plain], c.plain _, h _ _ _ hp⟩)⟩
theorem givesCU {P : Program} {T : Prem} {g : FuncId} {fn : Func} {args : List Value} {v : Value} (hf : P.funcs[g]? = some fn) (hname : (fn.name == "runtime.NumGoroutine") = false) (hb : fn.body.isSome = true) (ha : args.all plain = true) (hv : plain v = true)
  (h : ∀ w, T.T w → Calls P g args.toArray w fun e w' => e = .returned v ∧ Below w.heap.size w w') : GivesVU P T g args v := by
 intro σ
 refine ⟨enters_of hf hname hb, fun β w hT hl hwi _ => ?_⟩
 simp only [List.all_eq_true] at ha
 have hmap : args.map (rl β) = args := by
  conv => rhs; rw [← List.map_id args]
  exact List.map_congr_left fun x hx => rl_plain (ha x hx)
 rw [hmap]
 refine (h w hT).mono ?_
 rintro e w' ⟨rfl, hb⟩
 exact ⟨β, by rw [rl_plain hv], plain_inn hv, (Hp.start hl hwi).past hb⟩
theorem givesC {P : Program} {g : FuncId} {fn : Func} {args : List Value} {v : Value} (hf : P.funcs[g]? = some fn) (hname : (fn.name == "runtime.NumGoroutine") = false) (hb : fn.body.isSome = true) (ha : args.all plain = true) (hv : plain v = true)
  (h : ∀ w, Calls P g args.toArray w fun e w' => e = .returned v ∧ w' = w) : GivesV P g args v :=
 givesCU hf hname hb ha hv fun w _ => (h w).mono fun e w' h => ⟨h.1, by rw [h.2]; exact Below.refl _ _⟩
def cOf (f : Func) (j : Nat) : Code := ((loopsOf (f.body.getD .skip))[j]?).getD .skip
structure LEntry where
 id : Nat
 f : ∀ (R : Type), Env → LH → (LX → Env → LH → Option R) → Option R
def lam (l : List LEntry) : Lam where
 has i := l.any fun e => Nat.beq e.id i
 f R i tm σ K := match l.find? fun e => Nat.beq e.id i with
  | some e => e.f R tm σ K
  | none => none
def LEntry.Ok (P : Program) (Φ : Tab) (m n N : Nat) (ls : Option (List Nat)) (Λ : Lam) (e : LEntry) (c : Code) : Prop :=
 ∀ (R : Type) tm σ (K : LX → Env → LH → Option R) r, e.f R tm σ K = some r → ∃ x tm' σ', K x tm' σ' = some r ∧ LoopTo P Φ m n N ls Λ c tm σ x tm' σ'
theorem lam_ok1 {P : Program} {Φ : Tab} {m n N : Nat} {ls : Option (List Nat)} {e : LEntry} {c1 : Code} {cs : List Code} (hc : cs = [c1])
  (h : e.Ok P Φ m n N ls (lam [e]) c1) : LamOk P Φ m n N ls (lam [e]) cs := by
 subst hc
 intro c hc R tm σ K r hh
 simp only [List.mem_singleton] at hc
 subst hc
 simp only [lam, List.find?] at hh
 split at hh
 ·rename_i heq
  split at heq
  ·simp only [Option.some.injEq] at heq
   subst heq
   exact h _ _ _ _ _ hh
  ·simp at heq
 ·simp at hh
theorem lam_ok2 {P : Program} {Φ : Tab} {m n N : Nat} {ls : Option (List Nat)} {e1 e2 : LEntry} {c1 c2 : Code} {cs : List Code} (hc : cs = [c1, c2]) (hn1 : Nat.beq e1.id (loopId c2) = false) (hn2 : Nat.beq e1.id (loopId c1) = true)
  (h1 : e1.Ok P Φ m n N ls (lam [e1, e2]) c1) (h2 : e2.Ok P Φ m n N ls (lam [e1, e2]) c2) : LamOk P Φ m n N ls (lam [e1, e2]) cs := by
 subst hc
 intro c hc R tm σ K r hh
 simp only [List.mem_cons, List.not_mem_nil, or_false] at hc
 rcases hc with rfl | rfl
 ·simp only [lam, List.find?, hn2] at hh
  exact h1 _ _ _ _ _ hh
 ·simp only [lam, List.find?, hn1] at hh
  split at hh
  ·rename_i heq
   split at heq
   ·simp only [Option.some.injEq] at heq
    subst heq
    exact h2 _ _ _ _ _ hh
   ·simp at heq
  ·simp at hh
def iterV {V : Type} (rnd : V → V ⊕ V) : Nat → V → V
 | 0, v => v
 | n + 1, v => match rnd v with
  | .inl v' => iterV rnd n v'
  | .inr v' => v'
def sumK {V ρ : Type} (f g : V → ρ) (s : V ⊕ V) : ρ := match s with
 | .inl v => f v
 | .inr v => g v
theorem loop_to {P : Program} {Φ : Tab} {m n N : Nat} {ls : Option (List Nat)} {Λ : Lam} {c : Code} {V : Type} {rnd : V → V ⊕ V} {env : V → Env} {heap : V → LH} {x : Nat} {Inv : V → Prop} {μ : V → Nat}
  (hstep : ∀ v, Inv v → ∀ (k : Nat) (R : Type) (K : LX → Env → LH → Option R), loopN P m ls (k + 1) (exec P Φ m n N ls Λ c) (env v) (heap v) K = sumK (fun v' => loopN P m ls k (exec P Φ m n N ls Λ c) (env v') (heap v') K) (fun v' => K (.exit x) (env v') (heap v')) (rnd v))
  (hdec : ∀ v, Inv v → ∀ v', rnd v = .inl v' → Inv v' ∧ μ v' < μ v) :
  ∀ (f : Nat) (v : V), Inv v → μ v < f → LoopTo P Φ m n N ls Λ c (env v) (heap v) (.exit x) (env (iterV rnd f v)) (heap (iterV rnd f v)) := by
 intro f
 induction f with
 | zero => intro v _ h; omega
 | succ f ih =>
  intro v hi hμ R K r hK
  rw [iterV] at hK
  rcases hr : rnd v with v' | v'
  ·obtain ⟨h1, h2⟩ := hdec v hi v' hr
   rw [hr] at hK
   obtain ⟨k, hk⟩ := ih v' h1 (by omega) R K r hK
   exact ⟨k + 1, by rw [hstep v hi, hr]; exact hk⟩
  ·rw [hr] at hK
   exact ⟨1, by rw [hstep v hi, hr]; exact hK⟩
theorem cq {α ρ : Type} {c : Bool} {K : α → Option ρ} {A B : Option ρ} {x y : α} (hA : c = true → A = K x) (hB : c = false → B = K y) : (bif c then A else B) = K (bif c then x else y) := by
 cases c
 ·exact hB rfl
 ·exact hA rfl
theorem cqF {α ρ : Type} {c : Bool} {K : α → Option ρ} {B : Option ρ} {y : α} (hc : c = false) (hB : c = false → B = K y) : (bif c then none else B) = K y := by subst hc; exact hB rfl
theorem cqT {α ρ : Type} {c : Bool} {K : α → Option ρ} {A : Option ρ} {x : α} (hc : c = true) (hA : c = true → A = K x) : (bif c then A else none) = K x := by subst hc; exact hA rfl
end Go.RX
