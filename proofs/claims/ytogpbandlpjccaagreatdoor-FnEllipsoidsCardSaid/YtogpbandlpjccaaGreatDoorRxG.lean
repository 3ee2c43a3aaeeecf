/- Rows: an argument that is a struct of whole numbers, opened and shut. -/
import Derived.Test.YtogpbandlpjccaaGreatDoorRxF
import Derived.WalkKit
import Derived.ProofKit
import Derived.OpenShut
import Derived.ShutString
import Derived.ChangeOld
import Derived.SizedLaws
import Derived.ChangeArms
set_option linter.unusedSimpArgs false
set_option linter.unusedVariables false
namespace Go.RX
open Go.ChangeShapes Go.WideShapes Go.ChangeAt Go.RowKit
def In64 (n : Int) : Prop := -9223372036854775808 ≤ n ∧ n ≤ 9223372036854775807
end Go.RX
/- Functions that hand back a list. -/
set_option linter.unusedSimpArgs false
set_option linter.unusedVariables false
namespace Go.RX
open Go.RowKit
def atI (rs : List Value) (g : Bool) (i : Int) : Int := cI (nthR rs g i.toNat)
def GivesR (P : Program) (g : FuncId) (args : List Value) (z : Value) (e : TypeId) (rows : List Value) : Prop := ∀ σ, Gives P g args σ (hdrV σ.length) (σ ++ [(lstC rows true z, e)])
def hdrBlk (v : Value) (σ : LH) : Option Blk := match v with
 | .slice (some ⟨j, 0, some _⟩) _ _ => σ[j]?
 | _ => none
theorem givesRL {P : Program} (hm : P.follows .mixedOrders = true) (es : List (Entry P)) {g : FuncId} {fn : Func} (N : Nat) (ls : Option (List Nat)) (Λ : Lam) {args : List Value} {z : Value} {e : TypeId} {rows : List Value}
  (hf : P.funcs[g]? = some fn) (hname : (fn.name == "runtime.NumGoroutine") = false) (ha : args.all plain = true) (hL : ∀ c, fn.body = some c → LamOk P (tab es) 0 fn.ntmps N ls Λ (loopsOf c))
  (h : runK P (tab es) N ls Λ fn args 0 [] hdrBlk = some (lstC rows true z, e)) : GivesR P g args z e rows := by
 intro σ
 simp only [List.all_eq_true] at ha
 refine ⟨enters_of hf hname (runK_body h), fun β w _ hl hwi _ => ?_⟩
 have h0 : Lies β [] w := ⟨fun i c t hi => by simp at hi, fun i c t hi => by simp at hi, fun i rows g z t hi => by simp at hi⟩
 refine runK_calls (σ0 := []) hm (tab_ok es trivial) hf (fun _ => Nat.le_refl _) hL (Hp.start h0 (fun i hi => by simp at hi)) (fun x hx => plain_inn (ha x hx)) h ?_
 intro v σ' β' w' _ _ _ hp hk
 unfold hdrBlk at hk
 split at hk
 case h_2 => simp at hk
 rename_i j sp l c _
 have hjl := (List.getElem?_eq_some_iff.1 hk).1
 have hs := (Hp.start hl hwi).past hp.below
 obtain ⟨β2, h1, h2, h3⟩ := hs.newAt (w' := w') (lstC rows true z) e (β' j) (fun _ _ _ _ _ => rfl) (Nat.le_refl _) hs.below (fun hh => by simp [isN, lstC] at hh) (fun rows' g' z' he => by
  have hL := hp.lies.lst j rows true z e hk
  simp only [lstC, Array.mk.injEq, List.cons.injEq, Value.tuple.injEq, Value.bool.injEq, and_true] at he
  obtain ⟨rfl, rfl, rfl⟩ := he
  exact hL) (fun k hk => ⟨hp.own j (Nat.zero_le _) hjl k hk, hp.up j hjl k hk, fun i hi _ he => by
   have q1 := hp.own j (Nat.zero_le _) hjl k hk
   have q2 := hwi i hi k he
   omega⟩)
 refine ⟨β2, ?_, by simp [hdrV, inn], h3⟩
 simp [hdrV, rl, mvS, h2]
def entryR1 {P : Program} {T : Prem} {α : Type} (ca : Cod α) (z : Value) (e : TypeId) (g : FuncId) (f : α → List Value) (h : ∀ a, GivesR P g [ca.enc a] z e (f a)) : EntryU P T where
 g := g
 free := false
 mono h := by cases h
 f _ _ args σ K := match args with
  | [x] => (match ca.dec x with
   | some a => K (hdrV σ.length) (σ ++ [(lstC (f a) true z, e)]) true
   | none => none)
  | _ => none
 ok W hT R m args σ K r hh := by
  split at hh
  case h_2 => simp at hh
  rename_i x
  split at hh
  case h_2 => simp at hh
  rename_i a ha
  refine ⟨_, _, _, hh, fun S K' => by simp only [ha], Or.inl ?_⟩
  rw [ca.ok _ _ ha]
  exact (h a σ).wide trivial
end Go.RX
