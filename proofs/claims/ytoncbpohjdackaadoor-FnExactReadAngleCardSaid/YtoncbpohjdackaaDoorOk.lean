/- What the program's package variables hold while a call runs, and the contracts of the library's functions under it. -/
import Derived.Test.YtoncbpohjdackaaDoorShelf
import Derived.Test.YtoncbpohjdackaaDoorTB
import Derived.Shelf.Strings.SlTrimAscii
import Derived.Lib.AppendIntMem
import Derived.Lib.ParseIntBTie
import Derived.WalkKit
set_option linter.unusedVariables false
set_option linter.unusedSimpArgs false
namespace Go.Proofs.YtoncbpohjdackaaDoor.TX
open Go.RowKit Go.Shelf

/-- The table of powers of ten lies as it does; the greatest length is a number; (b: the two errors are values of an interface). -/
structure Ok_ (b : Bool) (w : World) : Prop where
  tab : Lib.TabBelow Tryd.prog w.heap.size w "internal/strconv.uint64pow10" .u64 Lib.pow10Tab
  pos : 3 ≤ w.heap.size
  ml : ∃ m, w.cell? ⟨0, 0, none⟩ = some (.int .i64 m)
  es : b = true → (∃ tp p, w.var? Tryd.prog "strconv.ErrSyntax" = some #[.iface tp p]) ∧ ∃ tp p, w.var? Tryd.prog "strconv.ErrRange" = some #[.iface tp p]
theorem var_below {w w' : World} (hb : Below w.heap.size w w') {x : String} {v : Array Value} (h : w.var? Tryd.prog x = some v) : w'.var? Tryd.prog x = some v := by
  unfold World.var? at *
  cases hg : Tryd.prog.globalNamed x with
  | none => simp [hg] at h
  | some g =>
    simp only [hg, Option.bind_some] at h ⊢
    have hlt : g < w.heap.size := by
      rcases Nat.lt_or_ge g w.heap.size with h' | h'
      · exact h'
      · rw [Array.getElem?_eq_none h'] at h; simp at h
    rw [hb.block g hlt]
    exact h
theorem okd_ {b : Bool} {w w' : World} (h : Ok_ b w) (hb : Below w.heap.size w w') : Ok_ b w' :=
  ⟨fun w2 h2 => h.tab w2 (hb.trans (h2.mono hb.size)), Nat.le_trans h.pos hb.size, by
    obtain ⟨m, hm⟩ := h.ml
    exact ⟨m, by rw [hb.cell (show (⟨0, 0, none⟩ : Addr).block < w.heap.size from by have := h.pos; show 0 < _; omega)]; exact hm⟩, fun hx => by
    obtain ⟨⟨tp, p, h1⟩, tp2, p2, h2⟩ := h.es hx
    exact ⟨⟨tp, p, var_below hb h1⟩, tp2, p2, var_below hb h2⟩⟩

theorem tt_ (x : Int) : Int.tmod (Int.tmod x 6000000) 100000 = Int.tmod x 100000 := Int.tmod_tmod_of_dvd x (by decide)
theorem formatInt_ {b : Bool} (a0 : Int) (r : ByteArray) (h0 : -9223372036854775808 ≤ a0) (h1 : a0 ≤ 9223372036854775807) (w : World) (hO : Ok_ b w) (h : (⟨(Lib.itoa a0).toArray⟩ : ByteArray) = r) :
    Calls Tryd.prog 65 #[.int .i64 a0, .int .i64 10] w fun e w' => e = .returned (.string r) ∧ Below w.heap.size w w' := by
  subst h
  refine (Tryd.strconv_FormatInt_10 a0 h0 h1 w hO.tab.here).mono ?_
  rintro e w' ⟨rfl, k, os, rfl⟩
  exact ⟨rfl, Lib.below_grow _ _ (Nat.le_refl _) _ _⟩
theorem repeat_ (a0 : ByteArray) (a1 : Int) (r : ByteArray) (h0 : 0 ≤ a1) (h1 : a1 ≤ 9223372036854775807) (h2 : a0.size * a1.toNat ≤ 140737488355328) (w : World) (h : (⟨(Lib.repeatL a0.data.toList a1.toNat).toArray⟩ : ByteArray) = r) :
    Calls Tryd.prog 66 #[.string a0, .int .i64 a1] w fun e w' => e = .returned (.string r) ∧ Below w.heap.size w w' := by
  subst h
  obtain ⟨c, rfl⟩ : ∃ c : Nat, a1 = c := ⟨a1.toNat, by omega⟩
  exact Tryd.strings_Repeat a0 c w (by omega) (by simpa using h2)
theorem below_drewN_ (n : Nat) (w : World) : Below w.heap.size w (w.drewN n) := ⟨rfl, rfl, rfl, Nat.le_refl _, fun _ _ => rfl⟩
theorem cut_ {b : Bool} (a0 a1 : ByteArray) (h : a0.size < 4294967281) (w : World) (hO : Ok_ b w) :
    Calls Tryd.prog 39 #[.string a0, .string a1] w fun e w' => e = .returned (.tuple #[.string ⟨(Lib.cut a0.data.toList a1.data.toList).1.toArray⟩, .string ⟨(Lib.cut a0.data.toList a1.data.toList).2.1.toArray⟩, .bool (Lib.cut a0.data.toList a1.data.toList).2.2]) ∧ Below w.heap.size w w' := by
  obtain ⟨m, hm⟩ := hO.ml
  refine (Tryd.strings_Cut a0 a1 m w h hm).mono ?_
  rintro e w' ⟨rfl, n, rfl⟩
  exact ⟨rfl, below_drewN_ _ _⟩
theorem trimPrefix_ (a0 a1 : ByteArray) (w : World) :
    Calls Tryd.prog 42 #[.string a0, .string a1] w fun e w' => e = .returned (.string ⟨(Lib.trimPrefix a0.data.toList a1.data.toList).toArray⟩) ∧ Below w.heap.size w w' := by
  refine (Tryd.strings_TrimPrefix a0 a1 w).mono ?_
  rintro e w' ⟨rfl, rfl⟩
  exact ⟨rfl, Below.refl _ _⟩
theorem trim_ (a0 a1 : ByteArray) (h0 : a0.size ≤ 4294967281) (h1 : a1.size < 4294967281) (h2 : (a1.data.toList.all fun b => decide (b.toNat < 128)) = true) (w : World) :
    Calls Tryd.prog 43 #[.string a0, .string a1] w fun e w' => e = .returned (.string ⟨(Lib.trimS a0.data.toList a1.data.toList).toArray⟩) ∧ Below w.heap.size w w' :=
  Any.strings_Trim_laid Tryd.lays160 (by kernel_rfl) a0 a1 w (by omega) h1 (fun j c hj => by
    rw [List.all_eq_true] at h2
    have := h2 c (List.mem_of_getElem? hj)
    simpa using this)
theorem decimal_ {b : Bool} (a0 : Int) (h0 : -9223372036854775808 ≤ a0) (h1 : a0 ≤ 9223372036854775807) (w : World) (hO : Ok_ b w) :
    Calls Tryd.prog 48 #[.int .i64 a0] w fun e w' => e = .returned (.string ⟨(Lib.itoa a0).toArray⟩) ∧ Below w.heap.size w w' := by
  have hc := formatInt_ a0 _ h0 h1 w hO rfl
  generalize (⟨(Lib.itoa a0).toArray⟩ : ByteArray) = t at hc ⊢
  go_enter Tryd.func48, Tryd.ntmps48
  go_wp2_with (go_at_call 65; refine hc.mono ?_; rintro e w' ⟨rfl, hB⟩)
  go_ret
  exact ⟨rfl, hB⟩
theorem parse_ {w : World} (s : ByteArray) (hs : s.size < 4294967281) (hO : Ok_ true w) :
    (∃ v, Lib.parseIntB 64 s.data.toList = .ok v ∧ Calls Tryd.prog 55 #[.string s, .int .i64 10, .int .i64 64] w fun e w' => e = .returned (.tuple #[.int .i64 v, .nilIface]) ∧ Below w.heap.size w w') ∨
    ((∀ v, Lib.parseIntB 64 s.data.toList ≠ .ok v) ∧ ∃ v : Int, Calls Tryd.prog 55 #[.string s, .int .i64 10, .int .i64 64] w fun e w' => ∃ N, e = .returned (.tuple #[.int .i64 v, .iface 98 (.pointer (some ⟨N, 0, none⟩))]) ∧ Below w.heap.size w w') := by
  obtain ⟨⟨tp, p, h1⟩, tp2, p2, h2⟩ := hO.es rfl
  rcases h : Lib.parseIntB 64 s.data.toList with v | _ | _
  · refine .inl ⟨v, rfl, Calls.mono (R := fun e w' => e = .returned (.tuple #[.int .i64 v, .nilIface]) ∧ (w' = w ∨ ∃ t, w' = Lib.bytesWorld w 5 t)) (Any.strconv_ParseInt_10_at64_ok Tryd.laysC174 s (by omega) v h w) ?_⟩
    rintro e w' ⟨rfl, rfl | ⟨t, rfl⟩⟩
    · exact ⟨rfl, Below.refl _ _⟩
    · exact ⟨rfl, Lib.bytesWorld_below _ _ _⟩
  · refine .inr ⟨(fun v hv => by cases hv), 0, Calls.mono (R := fun e w' => ∃ N, e = .returned (.tuple #[.int .i64 (0), .iface 98 (.pointer (some ⟨N, 0, none⟩))]) ∧ w.heap.size ≤ N ∧ w'.heap[N]? = some (.cells #[.string ⟨#[80, 97, 114, 115, 101, 73, 110, 116]⟩, .string s, .iface tp p] 118 (0, 0)) ∧ Below w.heap.size w w') (Any.strconv_ParseInt_10_at64_syntax_var Tryd.laysC174 s (by omega) h tp p w h1) ?_⟩
    rintro e w' ⟨N, rfl, _, _, hb⟩
    exact ⟨N, rfl, hb⟩
  · refine .inr ⟨(fun v hv => by cases hv), Lib.intSat 64 s.data.toList, Calls.mono (R := fun e w' => ∃ N, e = .returned (.tuple #[.int .i64 (Lib.intSat 64 s.data.toList), .iface 98 (.pointer (some ⟨N, 0, none⟩))]) ∧ w.heap.size ≤ N ∧ w'.heap[N]? = some (.cells #[.string ⟨#[80, 97, 114, 115, 101, 73, 110, 116]⟩, .string s, .iface tp2 p2] 118 (0, 0)) ∧ Below w.heap.size w w') (Any.strconv_ParseInt_10_at64_range_var Tryd.laysC174 s (by omega) h tp2 p2 w h2) ?_⟩
    rintro e w' ⟨N, rfl, _, _, hb⟩
    exact ⟨N, rfl, hb⟩
/-- ReadDecimal, on bytes. -/
def readDec (l : List UInt8) : Int × Bool := match Lib.parseIntB 64 l with
  | .ok v => if Lib.itoa v = l then (if (Go.TX.unm l).length ≤ 18 then (v, true) else (0, false)) else (0, false)
  | _ => (0, false)
theorem parse_range {l : List UInt8} {v : Int} (h : Lib.parseIntB 64 l = .ok v) : -9223372036854775808 ≤ v ∧ v ≤ 9223372036854775807 := by
  have := Lib.parseIntB_bounds (B := 64) h
  omega
theorem readDecimal_ (a0 : ByteArray) (r1 : Int) (r2 : Bool) (hs : a0.size < 4294967281) (w : World) (hO : Ok_ true w) (h : readDec a0.data.toList = (r1, r2)) :
    Calls Tryd.prog 40 #[.string a0] w fun e w' => e = .returned (.tuple #[.int .i64 r1, .bool r2]) ∧ Below w.heap.size w w' := by
  rcases parse_ a0 hs hO with ⟨v, hp, hc⟩ | ⟨hn, v, hc⟩
  · have hr := parse_range hp
    unfold readDec at h
    rw [hp] at h
    simp only at h
    have hT := trimPrefix_ a0 ⟨#[45]⟩
    have e1 : (Lib.trimPrefix a0.data.toList [45]) = Go.TX.unm a0.data.toList := Go.TX.trim_minus _
    have hT2 : ∀ w, Calls Tryd.prog 42 #[.string a0, .string ⟨#[45]⟩] w fun e w' => e = .returned (.string ⟨(Go.TX.unm a0.data.toList).toArray⟩) ∧ Below w.heap.size w w' := by
      intro w
      rw [← e1]
      exact hT w
    clear hT
    have hul : (⟨(Go.TX.unm a0.data.toList).toArray⟩ : ByteArray).size = (Go.TX.unm a0.data.toList).length := by simp [ByteArray.size]
    generalize (⟨(Go.TX.unm a0.data.toList).toArray⟩ : ByteArray) = u at hT2 hul
    have hD : ∀ w, Ok_ true w → Calls Tryd.prog 48 #[.int .i64 v] w fun e w' => e = .returned (.string ⟨(Lib.itoa v).toArray⟩) ∧ Below w.heap.size w w' := fun w hO => decimal_ v hr.1 hr.2 w hO
    have htl : (⟨(Lib.itoa v).toArray⟩ : ByteArray).toList = Lib.itoa v := by simp
    have hal : a0.toList = a0.data.toList := ByteArray.toList_eq a0
    generalize (⟨(Lib.itoa v).toArray⟩ : ByteArray) = t at hD htl
    by_cases c1 : Lib.itoa v = a0.data.toList
    · rw [if_pos c1] at h
      have f1 : (t.toList == a0.toList) = true := beq_iff_eq.2 (by rw [htl, hal, c1])
      by_cases c2 : (Go.TX.unm a0.data.toList).length ≤ 18
      · rw [if_pos c2] at h
        cases h
        have f2 : decide (18 < (u.size : Int)) = false := decide_eq_false (by omega)
        clear hul htl hal c1 c2 hp e1
        go_enter Tryd.func40, Tryd.ntmps40
        go_wp2_with (first | (go_at_call 55; refine hc.mono ?_; rintro e w1 ⟨rfl, hB1⟩) | (go_at_call 48; refine (hD _ (okd_ hO (by assumption))).mono ?_; rintro e w2 ⟨rfl, hB2⟩) | (go_at_call 42; refine (hT2 _).mono ?_; rintro e w3 ⟨rfl, hB3⟩))
        go_ret2
        exact ⟨rfl, (hB1.trans (hB2.mono hB1.size)).trans (hB3.mono (Nat.le_trans hB1.size hB2.size))⟩
      · rw [if_neg c2] at h
        cases h
        have f2 : decide (18 < (u.size : Int)) = true := decide_eq_true (by omega)
        clear hul htl hal c1 c2 hp e1
        go_enter Tryd.func40, Tryd.ntmps40
        go_wp2_with (first | (go_at_call 55; refine hc.mono ?_; rintro e w1 ⟨rfl, hB1⟩) | (go_at_call 48; refine (hD _ (okd_ hO (by assumption))).mono ?_; rintro e w2 ⟨rfl, hB2⟩) | (go_at_call 42; refine (hT2 _).mono ?_; rintro e w3 ⟨rfl, hB3⟩))
        go_ret2
        exact ⟨rfl, (hB1.trans (hB2.mono hB1.size)).trans (hB3.mono (Nat.le_trans hB1.size hB2.size))⟩
    · rw [if_neg c1] at h
      cases h
      have f1 : (t.toList == a0.toList) = false := beq_eq_false_iff_ne.2 (by rw [htl, hal]; exact c1)
      clear hul htl hal c1 hp e1
      go_enter Tryd.func40, Tryd.ntmps40
      go_wp2_with (first | (go_at_call 55; refine hc.mono ?_; rintro e w1 ⟨rfl, hB1⟩) | (go_at_call 48; refine (hD _ (okd_ hO (by assumption))).mono ?_; rintro e w2 ⟨rfl, hB2⟩) | (go_at_call 42; refine (hT2 _).mono ?_; rintro e w3 ⟨rfl, hB3⟩))
      go_ret2
      exact ⟨rfl, hB1.trans (hB2.mono hB1.size)⟩
  · have : readDec a0.data.toList = (0, false) := by
      unfold readDec
      cases hq : Lib.parseIntB 64 a0.data.toList with
      | ok v => exact absurd hq (hn v)
      | _ => rfl
    rw [this] at h
    cases h
    go_enter Tryd.func40, Tryd.ntmps40
    go_wp2_with (go_at_call 55; refine hc.mono ?_; rintro e w1 ⟨N, rfl, hB1⟩)
    go_ret2
    exact ⟨rfl, hB1⟩
end Go.Proofs.YtoncbpohjdackaaDoor.TX
