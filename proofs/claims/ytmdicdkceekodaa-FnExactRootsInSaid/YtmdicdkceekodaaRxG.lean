/- Rows: an argument that is a struct of whole numbers, opened and shut. -/
import Derived.Test.YtmdicdkceekodaaRxF
import Derived.WalkKit
import Derived.ProofKit
import Derived.OpenShut
import Derived.ShutString
import Derived.ChangeOld
import Derived.SizedLaws
import Derived.ChangeArms
set_option linter.unusedSimpArgs false
set_option linter.unusedVariables false
namespace Go.RX
open Go.ChangeShapes Go.WideShapes Go.ChangeAt Go.RowKit
def flatFs (P : Program) (f : TypeId → Option (List IntKind)) : Nat → List Field → Option (List IntKind)
 | _, [] => some []
 | off, fd :: r =>
  match f fd.type with
  | some ks =>
   (match decide (fd.offset = off) && decide (P.cellsOf fd.type = ks.length) with
   | true => (match flatFs P f (off + ks.length) r with
    | some rs => some (ks ++ rs)
    | none => none)
   | false => none)
  | none => none
def flatK (P : Program) : Nat → TypeId → Option (List IntKind)
 | 0, _ => none
 | n + 1, t =>
  match P.underlying t with
  | some (.int k) => some [k]
  | some (.struct fs) =>
   (match flatFs P (flatK P n) 0 fs.toList with
   | some ks => (match decide (P.cellsOf t = ks.length) with | true => some ks | false => none)
   | none => none)
  | _ => none
def wfs : List IntKind → List Int → Prop
 | k :: ks, n :: ns => (Lit.int k n).wf = true ∧ wfs ks ns
 | [], [] => True
 | _, _ => False
theorem wfs_append : ∀ {ks ls : List IntKind} {ns ms : List Int}, wfs ks ns → wfs ls ms → wfs (ks ++ ls) (ns ++ ms) ∧ intsV (ks ++ ls) (ns ++ ms) = intsV ks ns ++ intsV ls ms
 | [], ls, [], ms, _, h => ⟨h, rfl⟩
 | k :: ks, ls, n :: ns, ms, h, h' => by
  obtain ⟨h1, h2⟩ := wfs_append h.2 h'
  exact ⟨⟨h.1, h1⟩, by simp [intsV, h2]⟩
 | [], _, _ :: _, _, h, _ => h.elim
 | _ :: _, _, [], _, h, _ => h.elim
section
variable {H : Type} {enc : TypeId × Value → H} {P : Program}
def Flat (enc : TypeId × Value → H) (P : Program) (t : TypeId) (ks : List IntKind) (cs : List Value) (x : DataW H × List MemPlace) (fuel : Nat) : Prop :=
 (∃ ns, wfs ks ns ∧ cs = intsV ks ns) ∧ x.2 = [] ∧ ∀ (w : World) (base : Nat) (spare : Nat → Bool) (held : Bool), DataW.trod enc P w base spare held fuel t cs = some x
theorem flat_fields {w : World} {base : Nat} {spare : Nat → Bool} {held : Bool} {n : Nat} {f : TypeId → Option (List IntKind)} {cs : List Value}
  (hf : ∀ t ks cs x, f t = some ks → DataW.trod enc P w base spare held n t cs = some x → Flat enc P t ks cs x n) :
  ∀ (fs : List Field) (off : Nat) (ks : List IntKind) (xs : List (DataW H × List MemPlace)), flatFs P f off fs = some ks → xs.length = fs.length → cs.length = off + ks.length →
   (∀ (i : Nat) (fd : Field), fs[i]? = some fd → DataW.trod enc P w base spare held n fd.type ((cs.drop fd.offset).take (P.cellsOf fd.type)) = xs[i]?) →
   (∃ ns, wfs ks ns ∧ cs.drop off = intsV ks ns) ∧ xs.flatMap (·.2) = [] ∧
    ∀ (w : World) (base : Nat) (spare : Nat → Bool) (held : Bool), fs.mapM (fun fd => DataW.trod enc P w base spare held n fd.type ((cs.drop fd.offset).take (P.cellsOf fd.type))) = some xs := by
 intro fs
 induction fs with
 | nil =>
  intro off ks xs h hl hc _
  simp only [flatFs, Option.some.injEq] at h
  subst h
  cases xs with
  | nil => exact ⟨⟨[], trivial, by rw [List.drop_eq_nil_of_le (by simp at hc; omega)]; rfl⟩, rfl, fun _ _ _ _ => rfl⟩
  | cons _ _ => simp at hl
 | cons fd r ih =>
  intro off ks xs h hl hc hx
  simp only [flatFs] at h
  split at h
  case h_2 => simp at h
  rename_i k1 hk
  split at h
  case h_2 => simp at h
  rename_i hok
  simp only [Bool.and_eq_true, decide_eq_true_eq] at hok
  split at h
  case h_2 => simp at h
  rename_i rs hrs
  simp only [Option.some.injEq] at h
  subst h
  cases xs with
  | nil => simp at hl
  | cons x xs =>
   have h0 := hx 0 fd rfl
   simp only [List.getElem?_cons_zero] at h0
   obtain ⟨⟨n1, hw1, he1⟩, hp1, hall1⟩ := hf _ _ _ _ hk h0
   simp only [List.length_append] at hc
   obtain ⟨⟨n2, hw2, he2⟩, hp2, hall2⟩ := ih (off + k1.length) rs xs hrs (by simpa using hl) (by omega) fun i g hg => by
    have := hx (i + 1) g (by simpa using hg)
    simpa using this
   obtain ⟨ha, hb⟩ := wfs_append hw1 hw2
   refine ⟨⟨n1 ++ n2, ha, ?_⟩, by simp [hp1, hp2], fun w base spare held => ?_⟩
   ·rw [hb, ← he1, ← he2, hok.1, hok.2, ← List.drop_drop, List.take_append_drop]
   ·simp only [List.mapM_cons, hall1 w base spare held, hall2 w base spare held]
    rfl
theorem flat_trod {w : World} {base : Nat} {spare : Nat → Bool} {held : Bool} : ∀ (m fuel : Nat) (t : TypeId) (ks : List IntKind) (cs : List Value) (x : DataW H × List MemPlace),
  flatK P m t = some ks → DataW.trod enc P w base spare held fuel t cs = some x → Flat enc P t ks cs x fuel := by
 intro m
 induction m with
 | zero => intro fuel t ks cs x h; simp [flatK] at h
 | succ m ih =>
  intro fuel t ks cs x h hx
  simp only [flatK] at h
  split at h
  ·rename_i k hu
   simp only [Option.some.injEq] at h
   subst h
   obtain ⟨n, rfl, rfl, hw⟩ := DataW.trod_int hu hx
   refine ⟨⟨[n], ⟨hw, trivial⟩, rfl⟩, rfl, fun w base spare held => ?_⟩
   cases fuel with
   | zero => simp [DataW.trod] at hx
   | succ f => simp [DataW.trod, hu, hw]
  ·rename_i fs hu
   split at h
   case h_2 => simp at h
   rename_i ks' hks
   split at h
   case h_2 => simp at h
   rename_i hlen
   simp only [decide_eq_true_eq] at hlen
   simp only [Option.some.injEq] at h
   subst h
   obtain ⟨xs, n, rfl, rfl, hl, hlx, hxs⟩ := DataW.trod_struct hu hx
   obtain ⟨h1, h2, h3⟩ := flat_fields (enc := enc) (P := P) (w := w) (base := base) (spare := spare) (held := held) (n := n) (f := flatK P m) (cs := cs) (fun t ks cs x h hx => ih n t ks cs x h hx) fs.toList 0 ks' xs hks (by simpa using hlx) (by omega)
    (fun i fd hi => hxs i fd (by simpa using hi))
   exact ⟨by simpa using h1, h2, fun w base spare held => trod_struct_mk hu hl (h3 w base spare held)⟩
  ·simp at h
theorem open_flat {w : World} {base b0 : Nat} {r : Reach} {spare : Nat → Bool} {held : Bool} {t : TypeId} {fs : Array Field} {m : Nat} {ks : List IntKind} {v : Value} {d : DataW H} {p : List MemPlace}
  (hs : P.underlying t = some (.struct fs)) (hk : flatK P m t = some ks) (hv : Value.okWide P w r b0 t v) (h : DataW.Trod enc P w base spare held t v d p) :
  (∃ ns, wfs ks ns ∧ v = .agg (intsV ks ns).toArray) ∧ p = [] ∧ ∀ (w : World) (base : Nat) (spare : Nat → Bool) (held : Bool), DataW.Trod enc P w base spare held t v d [] := by
 obtain ⟨cs, rfl, hsz⟩ := okWide_struct hs hv
 obtain ⟨fuel, hf⟩ := h
 obtain ⟨⟨ns, hw, he⟩, hp, hall⟩ := flat_trod m fuel t ks _ _ hk hf
 refine ⟨⟨ns, hw, ?_⟩, hp, fun w base spare held => ⟨fuel, ?_⟩⟩
 ·rw [← he]; rfl
 ·have := hall w base spare held
  simp only at hp
  rw [hp] at this
  exact this
end
def In64 (n : Int) : Prop := -9223372036854775808 ≤ n ∧ n ≤ 9223372036854775807
theorem in64_of {n : Int} (h : (Lit.int .i64 n).wf = true) : In64 n := by
 simp only [Lit.wf, Bool.and_eq_true, decide_eq_true_eq] at h
 exact h
def Iv.In (a : Iv) : Prop := In64 a.lo ∧ In64 a.hi
section
variable {H : Type} {enc : TypeId × Value → H} {P : Program} {w : World} {base b0 : Nat} {r : Reach} {spare : Nat → Bool} {held : Bool} {t : TypeId} {fs : Array Field} {m : Nat} {v : Value} {d : DataW H} {p : List MemPlace}
theorem openIv (hs : P.underlying t = some (.struct fs)) (hk : flatK P m t = some k2) (hv : Value.okWide P w r b0 t v) (h : DataW.Trod enc P w base spare held t v d p) :
  ∃ a : Iv, v = cIv.enc a ∧ a.In ∧ p = [] ∧ ∀ (w : World) (base : Nat) (spare : Nat → Bool) (held : Bool), DataW.Trod enc P w base spare held t v d [] := by
 obtain ⟨⟨ns, hw, rfl⟩, hp, hall⟩ := open_flat hs hk hv h
 match ns, hw with
 | [a, b], hw => exact ⟨⟨a, b⟩, rfl, ⟨in64_of hw.1, in64_of hw.2.1⟩, hp, hall⟩
theorem openI (hs : P.underlying t = some (.int .i64)) (hv : Value.okWide P w r b0 t v) (h : DataW.Trod enc P w base spare held t v d p) :
  ∃ a : Int, v = (cInt .i64).enc a ∧ In64 a ∧ p = [] ∧ ∀ (w : World) (base : Nat) (spare : Nat → Bool) (held : Bool), DataW.Trod enc P w base spare held t v d [] := by
 obtain ⟨n, rfl, rfl, rfl, hw⟩ := open_int hs hv h
 exact ⟨n, rfl, in64_of hw, rfl, fun w base spare held => shut_int hs hw⟩
end
end Go.RX
/- Functions that hand back a list. -/
set_option linter.unusedSimpArgs false
set_option linter.unusedVariables false
namespace Go.RX
open Go.RowKit
def rowIv (r : Value) : Iv := ⟨cI (r.cells.toList.headD undef), cI (r.cells.toList.tail.headD undef)⟩
def atIvN (rs : List Value) (g : Bool) (n : Nat) : Iv := rowIv (nthR rs g n)
def atIv (rs : List Value) (g : Bool) (i : Int) : Iv := rowIv (nthR rs g i.toNat)
def atI (rs : List Value) (g : Bool) (i : Int) : Int := cI (nthR rs g i.toNat)
end Go.RX
