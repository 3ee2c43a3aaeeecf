/- Lists of values: their length, their elements, a new element behind the last one. -/
import Derived.Test.YtomphoojkemcpaaGreatRxB
import Derived.Deep.AppendLies
set_option linter.unusedSimpArgs false
set_option linter.unusedVariables false
namespace Go.RX
open Go.RowKit

theorem add_at (b o n : Nat) : (⟨b, o, none⟩ : Addr).add n = ⟨b, o + n, none⟩ := by
  unfold Addr.add
  split
  · rename_i h; subst h; rfl
  · rfl

theorem flat_get {n : Nat} : ∀ (l : List Value), (∀ r ∈ l, r.cells.size = n) → ∀ (i j : Nat) (r : Value), l[i]? = some r → j < n → (flat l)[i * n + j]? = r.cells.toList[j]? := by
  intro l
  induction l with
  | nil => intro _ i j r hi; simp at hi
  | cons x l ih =>
    intro h i j r hi hj
    have hx := h x (by simp)
    simp only [flat, List.flatMap_cons]
    cases i with
    | zero =>
      simp only [List.getElem?_cons_zero, Option.some.injEq] at hi
      subst hi
      rw [Nat.zero_mul, Nat.zero_add, List.getElem?_append_left (by simpa [hx] using hj)]
    | succ i =>
      simp only [List.getElem?_cons_succ] at hi
      rw [List.getElem?_append_right (by simp only [Array.length_toList, hx, Nat.succ_mul]; omega)]
      have := ih (fun y hy => h y (by simp [hy])) i j r hi hj
      simp only [Array.length_toList, hx, Nat.succ_mul]
      rw [show i * n + n + j - n = i * n + j by omega]
      exact this

def nthR (rows : List Value) (g : Bool) (i : Nat) : Value := match g with | true => rows.getD (rows.length - 1 - i) undef | false => rows.getD i undef
theorem nthR_get {rows : List Value} {g : Bool} {i : Nat} (h : i < rows.length) : (inOrder rows g)[i]? = some (nthR rows g i) := by
  cases g with
  | false => simp [inOrder, nthR, List.getD, h]
  | true =>
    have h2 : rows.length - 1 - i < rows.length := by omega
    simp only [inOrder, nthR, List.getD]
    rw [List.getElem?_reverse h]
    simp [h2]
theorem inOrder_len {rows : List Value} {g : Bool} : (inOrder rows g).length = rows.length := by cases g <;> simp [inOrder]

def aggV : Value → Bool | .agg _ => true | _ => false
def hdrV (b : Nat) : Value := .slice (some ⟨b, 0, some 0⟩) 0 0
def isHdr : Value → Bool | .slice (some ⟨_, _, some _⟩) _ _ => true | _ => false

/-- The element of a list, read. -/
def loadS {R : Type} (P : Program) (t : TypeId) (p : Value) (σ : LH) (K : Value → Option R) : Option R :=
  match p with
  | .pointer (some ⟨b, i, some _⟩) => match σ[b]? with
    | some (⟨[.tuple ⟨rows⟩, .bool g, z]⟩, _) => match pv P (isAgg t), pv P (sizeOf t) with
      | some ag, some n => match decide (ag = aggV z) && Nat.beq n z.cells.size with
        | true => bif decide (i < rows.length) then K (rowAs z (nthR rows g i)) else none
        | false => none
      | _, _ => none
    | _ => none
  | _ => none

theorem rowAs_plain (z r : Value) : plain (rowAs z r) = true := by unfold rowAs; split <;> rfl

theorem Lst.cell {p : Pl} {z : Value} {l : List Value} {g : Bool} {t : TypeId} {w : World} (h : Lst p z l g t w) {i j : Nat} {r x : Value} (hi : l[i]? = some r) (hj : r.cells.toList[j]? = some x) :
    w.cell? ⟨p.blk, p.off i + j, none⟩ = some x := by
  have hmem : r ∈ l := List.mem_of_getElem? hi
  have hil := (List.getElem?_eq_some_iff.1 hi).1
  have hjl : j < p.sz := by have := (List.getElem?_eq_some_iff.1 hj).1; rw [Array.length_toList, (h.row r hmem).2.1] at this; exact this
  rcases h.lay with ⟨_, h2, _⟩ | ⟨k, o, c, fz, h1, h2, h3, h4⟩
  · subst h2; simp at hi
  · have hf := flat_get l (fun r hr => (h.row r hr).2.1) i j r hi hjl
    rw [← h4, hj] at hf
    have hlt : i * p.sz + j < l.length * p.sz := by
      have : (i + 1) * p.sz ≤ l.length * p.sz := Nat.mul_le_mul_right _ hil
      rw [Nat.succ_mul] at this; omega
    rw [List.getElem?_take_of_lt hlt, List.getElem?_drop] at hf
    simp only [World.cell?, Pl.blk, Pl.off, h1, h2, Option.getD_some, h3, Option.isSome_none, Bool.false_eq_true, if_false]
    rw [← Array.getElem?_toList, ← hf, Nat.add_assoc]

theorem loadS_run {R : Type} {P : Program} {β : Nat → Pl} {σ : LH} {w : World} (h : Lies β σ w) {t : TypeId} {p : Value} {K : Value → Option R} {r : R} (hl : loadS P t p σ K = some r) :
    ∃ v, K v = some r ∧ plain v = true ∧ (Instr.loadAt t (rl β p)).run P w = .ok v w := by
  unfold loadS at hl
  split at hl
  case h_2 => simp at hl
  rename_i b i sp
  split at hl
  case h_2 => simp at hl
  rename_i rows g z e hσ
  split at hl
  case h_2 => simp at hl
  rename_i ag n hag hsz
  split at hl
  case h_2 => simp at hl
  rename_i hc
  simp only [Bool.and_eq_true] at hc
  have hag' : ag = aggV z := of_decide_eq_true hc.1
  have hn := Nat.eq_of_beq_eq_true hc.2
  cases hd : decide (i < rows.length) with
  | false => rw [hd] at hl; simp at hl
  | true =>
  rw [hd] at hl
  simp only [cond_true] at hl
  have hi := of_decide_eq_true hd
  have L := h.lst b rows g z e hσ
  have hget := nthR_get (g := g) hi
  have hmem : nthR rows g i ∈ inOrder rows g := List.mem_of_getElem? hget
  obtain ⟨hr, hrs, _⟩ := L.row _ hmem
  refine ⟨_, hl, rowAs_plain z _, ?_⟩
  have hrl : rl β (.pointer (some ⟨b, i, some sp⟩)) = .pointer (some ⟨(β b).blk, (β b).off i, none⟩) := rfl
  have hsure : ∀ w : World, (Instr.sureAddr (.pointer (some ⟨(β b).blk, (β b).off i, none⟩))).run P w = .ok ⟨(β b).blk, (β b).off i, none⟩ w := fun _ => rfl
  rw [hrl]
  rw [← hr]
  cases z with
  | agg zs =>
    have hrow : nthR rows g i = .agg (nthR rows g i).cells := by
      rw [hr]; simp [rowAs, Value.cells]
    have hcells : (loadCells ⟨(β b).blk, (β b).off i, none⟩ n).run P w = .ok (nthR rows g i).cells w := by
      have := run_loadCells_list (P := P) w ⟨(β b).blk, (β b).off i, none⟩ (nthR rows g i).cells.toList (fun j v hj => by
        rw [add_at]
        exact L.cell hget hj)
      rw [Array.length_toList, hrs, ← L.szz, ← hn] at this
      simpa using this
    have hagt : pv P (isAgg t) = some true := by rw [hag, hag']; rfl
    simp only [Instr.loadAt, Sem.run_bind, hsure, Result.andThen_ok, loadVar, pv_run _ hagt w, pv_run _ hsz w, if_true, hcells, Sem.run_pure]
    rw [← hrow]
  | _ =>
    have hagt : pv P (isAgg t) = some false := by rw [hag, hag']; rfl
    have hrow : (nthR rows g i).cells = #[nthR rows g i] := by
      rw [hr]; simp [rowAs, Value.cells, undef]
    have hcell := L.cell (j := 0) (x := nthR rows g i) hget (by rw [hrow]; rfl)
    simp only [Nat.add_zero] at hcell
    simp only [Instr.loadAt, Sem.run_bind, hsure, Result.andThen_ok, loadVar, pv_run _ hagt w, Bool.false_eq_true, if_false, run_load, hcell]

/-- The place of an element. -/
def indexS {R : Type} (P : Program) (t : TypeId) (p i : Value) (σ : LH) (K : Value → Option R) : Option R :=
  match p, i with
  | .slice (some ⟨b, _, some _⟩) _ _, .int _ j => match σ[b]? with
    | some (⟨[.tuple ⟨rows⟩, .bool g, z]⟩, _) => match pv P (underlying t) with
      | some (.slice elem) => match pv P (sizeOf elem) with
        | some n => match Nat.beq n z.cells.size with
          | true => bif decide (0 ≤ j ∧ j < (rows.length : Int)) then K (.pointer (some ⟨b, j.toNat, some 0⟩)) else none
          | false => none
        | none => none
      | _ => none
    | _ => none
  | _, _ => none

theorem indexS_run {R : Type} {P : Program} {β : Nat → Pl} {σ : LH} {w : World} (h : Lies β σ w) {t : TypeId} {p i : Value} {K : Value → Option R} {r : R} (hl : indexS P t p i σ K = some r) :
    ∃ v, K v = some r ∧ inn σ.length v = true ∧ (Instr.indexAt t (rl β p) (rl β i)).run P w = .ok (rl β v) w := by
  unfold indexS at hl
  split at hl
  case h_2 => simp at hl
  rename_i b ofs sp len cap k j
  split at hl
  case h_2 => simp at hl
  rename_i rows g z e hσ
  split at hl
  case h_2 => simp at hl
  rename_i elem hu
  split at hl
  case h_2 => simp at hl
  rename_i n hsz
  split at hl
  case h_2 => simp at hl
  rename_i hn
  have hn := Nat.eq_of_beq_eq_true hn
  cases hd : decide (0 ≤ j ∧ j < (rows.length : Int)) with
  | false => rw [hd] at hl; simp at hl
  | true =>
  rw [hd] at hl
  simp only [cond_true] at hl
  have hj := of_decide_eq_true hd
  have L := h.lst b rows g z e hσ
  have hlen := L.len
  rw [inOrder_len] at hlen
  have hblt : b < σ.length := (List.getElem?_eq_some_iff.1 hσ).1
  refine ⟨_, hl, by simpa [inn] using hblt, ?_⟩
  rcases L.lay with ⟨_, h2, _⟩ | ⟨k', o, c, fz, h1, h2, h3, h4⟩
  · have := congrArg List.length h2
    rw [inOrder_len] at this
    simp only [List.length_nil] at this
    omega
  · have hrl : rl β (.slice (some ⟨b, ofs, some sp⟩) len cap) = .slice (some ⟨k', o, none⟩) rows.length (β b).hc := by
      simp [rl, mvS, h1, hlen]
    have hrp : rl β (.pointer (some ⟨b, j.toNat, some 0⟩)) = .pointer (some ((⟨k', o, none⟩ : Addr).add (j.toNat * n))) := by
      rw [add_at]
      simp [rl, mv, Pl.blk, Pl.off, h1, h2, ← L.szz, hn]
    rw [hrl, hrp]
    simp [rl, Instr.indexAt, asIntOf, Sem.run_bind, pv_run _ hu w, hj, pv_run _ hsz w]

/-! ### A new element -/
def shp : List Value → List Value → Bool
  | [], [] => true
  | .int k _ :: zs, .int k' _ :: cs => decide (k = k') && shp zs cs
  | _, _ => false
def shapeOk (z : Value) (c : List Value) : Bool := match z, c with
  | .agg zs, c => shp zs.toList c
  | .int k _, [.int k' _] => decide (k = k')
  | .string _, [.string _] => true
  | _, _ => false
def newRow (z : Value) (c : List Value) : Value := match z with | .agg _ => .agg ⟨c⟩ | _ => c.headD undef

theorem shp_asC : ∀ {zs cs : List Value}, shp zs cs = true → asC zs cs = cs ∧ cs.length = zs.length ∧ ∀ x ∈ cs, plain x = true ∧ x.oneCell' = true
  | [], [], _ => ⟨rfl, rfl, fun x hx => by simp at hx⟩
  | .int k n :: zs, .int k' n' :: cs, h => by
    simp only [shp, Bool.and_eq_true, decide_eq_true_eq] at h
    obtain ⟨rfl, h⟩ := h
    obtain ⟨h1, h2, h3⟩ := shp_asC h
    refine ⟨by simp [asC, cI, h1], by simp [h2], fun x hx => ?_⟩
    rcases List.mem_cons.1 hx with rfl | hx
    · exact ⟨rfl, rfl⟩
    · exact h3 x hx
  | [], _ :: _, h => by simp [shp] at h
  | .int _ _ :: _, [], h => by simp [shp] at h
  | .int _ _ :: _, .bool _ :: _, h => by simp [shp] at h
  | .int _ _ :: _, .float .. :: _, h => by simp [shp] at h
  | .int _ _ :: _, .complex .. :: _, h => by simp [shp] at h
  | .int _ _ :: _, .string _ :: _, h => by simp [shp] at h
  | .int _ _ :: _, .pointer _ :: _, h => by simp [shp] at h
  | .int _ _ :: _, .slice .. :: _, h => by simp [shp] at h
  | .int _ _ :: _, .map _ :: _, h => by simp [shp] at h
  | .int _ _ :: _, .chan _ :: _, h => by simp [shp] at h
  | .int _ _ :: _, .func .. :: _, h => by simp [shp] at h
  | .int _ _ :: _, .nilFunc :: _, h => by simp [shp] at h
  | .int _ _ :: _, .iface .. :: _, h => by simp [shp] at h
  | .int _ _ :: _, .nilIface :: _, h => by simp [shp] at h
  | .int _ _ :: _, .agg _ :: _, h => by simp [shp] at h
  | .int _ _ :: _, .tuple _ :: _, h => by simp [shp] at h
  | .bool _ :: _, _, h => by simp [shp] at h
  | .float .. :: _, _, h => by simp [shp] at h
  | .complex .. :: _, _, h => by simp [shp] at h
  | .string _ :: _, _, h => by simp [shp] at h
  | .pointer _ :: _, _, h => by simp [shp] at h
  | .slice .. :: _, _, h => by simp [shp] at h
  | .map _ :: _, _, h => by simp [shp] at h
  | .chan _ :: _, _, h => by simp [shp] at h
  | .func .. :: _, _, h => by simp [shp] at h
  | .nilFunc :: _, _, h => by simp [shp] at h
  | .iface .. :: _, _, h => by simp [shp] at h
  | .nilIface :: _, _, h => by simp [shp] at h
  | .agg _ :: _, _, h => by simp [shp] at h
  | .tuple _ :: _, _, h => by simp [shp] at h

theorem newRow_ok {z : Value} {c : List Value} (h : shapeOk z c = true) : newRow z c = rowAs z (newRow z c) ∧ (newRow z c).cells.toList = c ∧ c.length = z.cells.size ∧ ∀ x ∈ c, plain x = true ∧ x.oneCell' = true := by
  unfold shapeOk at h
  split at h
  · rename_i zs cs
    obtain ⟨h1, h2, h3⟩ := shp_asC h
    exact ⟨by simp [newRow, rowAs, Value.cells, h1], rfl, by simpa [Value.cells] using h2, h3⟩
  · rename_i k n k' n'
    simp only [decide_eq_true_eq] at h
    subst h
    exact ⟨rfl, rfl, rfl, fun x hx => by simp only [List.mem_singleton] at hx; subst hx; exact ⟨rfl, rfl⟩⟩
  · exact ⟨rfl, rfl, rfl, fun x hx => by simp only [List.mem_singleton] at hx; subst hx; exact ⟨rfl, rfl⟩⟩
  · simp at h

/-- Builtins over lists. -/
def listB {R : Type} (P : Program) (m : Nat) (b : Builtin) (ts : Array TypeId) (args : List Value) (σ : LH) (K : Value → LH → Bool → Option R) : Option R :=
  match b, args with
  | .len, [.slice (some ⟨bk, _, some _⟩) _ _] => match σ[bk]?, ts.toList[0]? with
    | some (⟨[.tuple ⟨rows⟩, .bool g, z]⟩, _), some t => match pv P (underlying t) with
      | some (.slice _) => K (goInt rows.length) σ true
      | _ => none
    | _, _ => none
  | .append, [.slice (some ⟨bk, _, some _⟩) _ _, .slice (some ⟨b2, 0, none⟩) 1 _] => match σ[bk]?, σ[b2]? with
    | some (⟨[.tuple ⟨rows⟩, .bool true, z]⟩, e), some (⟨c2⟩, _) => match ts.toList with
      | [t, t'] => match pv P (underlying t) with
        | some (.slice e') => match pv P (typeInfo e) with
          | some i => match i.zero with
            | some z0 => match ((((Nat.beq t t' && Nat.beq e e') && Nat.ble m bk) && (Nat.beq i.size z.cells.size && Nat.beq z0.cells.size i.size)) && ((Nat.blt 0 i.size && Nat.blt 0 i.bytes) && isN ⟨c2⟩)) && shapeOk z c2 with
              | true => bif decide ((rows.length + 1) * i.bytes ≤ 140737488355328) then K (hdrV σ.length) (σ.set bk (deadC, e) ++ [(lstC (newRow z c2 :: rows) true z, e)]) false else none
              | false => none
            | none => none
          | none => none
        | _ => none
      | _ => none
    | _, _ => none
  | _, _ => none

theorem pv_info {P : Program} {e : TypeId} {i : TypeInfo} (h : pv P (typeInfo e) = some i) : P.info? e = some i := by
  have hp : pv P (typeInfo e) = match P.info? e with | some i => some i | none => none := by
    simp only [typeInfo, program, Bind.bind, Sem.bind, pv]
    cases P.info? e <;> rfl
  rw [hp] at h
  split at h
  · rename_i j hj; rw [hj]; exact h
  · simp at h

theorem append_run {P : Program} {σ0 σ : LH} {W w : World} {β0 β : Nat → Pl} (hp : Hp σ0 W β0 β σ w) {bk b2 : Nat} {rows : List Value} {z : Value} {e e2 t : TypeId} {c2 : List Value} {i : TypeInfo} {z0 : Value} {n1 n2 n3 n4 sp : Nat} {ty : TypeId}
    (hσ : σ[bk]? = some (lstC rows true z, e)) (h2 : σ[b2]? = some (⟨c2⟩, e2)) (hu : pv P (underlying t) = some (.slice e)) (hi : pv P (typeInfo e) = some i) (hz : i.zero = some z0)
    (hm : σ0.length ≤ bk) (hs1 : i.size = z.cells.size) (hs2 : z0.cells.size = i.size) (hs3 : 0 < i.size) (hn : isN ⟨c2⟩ = true) (hsh : shapeOk z c2 = true) (hb : (rows.length + 1) * i.bytes ≤ 140737488355328) (hbpos : 0 < i.bytes) :
    ∃ β' w', (∀ j, j < σ.length → β' j = β j) ∧ Hp σ0 W β0 β' (σ.set bk (deadC, e) ++ [(lstC (newRow z c2 :: rows) true z, e)]) w' ∧
      (Builtin.append_ #[t, t] ty #[rl β (.slice (some ⟨bk, n1, some sp⟩) n2 n3), rl β (.slice (some ⟨b2, 0, none⟩) 1 n4)]).run P w = .ok (rl β' (hdrV σ.length)) w' := by
  have L := hp.lies.lst bk rows true z e hσ
  obtain ⟨hr1, hr2, hr3, hr4⟩ := newRow_ok hsh
  have hbk : bk < σ.length := (List.getElem?_eq_some_iff.1 hσ).1
  have hown0 := L.gr rfl
  rw [inOrder_len] at hown0
  have hown : w.ownsRow W.heap.size e (β bk).sz (.slice (β bk).ha (β bk).hl (β bk).hc) rows.length (flat (inOrder rows true)) := by
    refine ⟨hown0.1, ?_⟩
    rcases hown0.2 with h3 | ⟨q, cap, cur, h3, h4, h5⟩
    · exact .inl h3
    · refine .inr ⟨q, cap, cur, h3, ?_, h5⟩
      simp only [Value.slice.injEq] at h3
      rcases L.lay with h6 | ⟨k, o, c, fz, h6, h7, _⟩
      · have := (h6.2.2 rfl).1
        rw [this] at h3
        simp at h3
      · rw [h6] at h3
        simp only [Option.some.injEq, Addr.mk.injEq] at h3
        rw [← h3.1.1]
        exact hp.own bk hm hbk k h7
  have hat := hp.lies.at h2 hn
  have hc2 : (⟨c2⟩ : Array Value).map (rl β) = ⟨c2⟩ := by
    conv => rhs; rw [← Array.map_id (⟨c2⟩ : Array Value)]
    exact Array.map_congr_left fun x hx => rl_plain (hr4 x (by simpa using hx)).1
  rw [hc2] at hat
  have hmax : rows.length + 1 ≤ maxLen := by
    have : (rows.length + 1) * 1 ≤ (rows.length + 1) * i.bytes := Nat.mul_le_mul_left _ hbpos
    simp only [maxLen]; omega
  obtain ⟨g, cap, w', hrun, hown', hgr, hwh, hlt⟩ := run_append_lies (P := P) w t ty W.heap.size e i z0 (β bk).sz i.bytes (pv_underlying hu) (pv_info hi) hz (by rw [hs1, L.szz]) rfl (by rw [hs2, hs1, L.szz]) L.szp
    (.slice (β bk).ha (β bk).hl (β bk).hc) rows.length (flat (inOrder rows true)) hown ⟨(β b2).blk, 0, none⟩ 1 n4 c2 (by rw [hr3, L.szz, Nat.one_mul]) (fun j u hj => by
      rw [add_at, Nat.zero_add]
      simp only [World.cell?, hat, Option.isSome_none, Bool.false_eq_true, if_false]
      simpa using hj) (fun u hu => (hr4 u hu).2) Nat.one_pos hmax hb hp.below.size _ rfl
  have hb0 : ∀ k, (Value.slice (β bk).ha (β bk).hl (β bk).hc).ownBlock = some k → (β bk).adr = some k := by
    intro k hk
    rcases L.lay with h6 | ⟨k', o, c, fz, h6, h7, _⟩
    · have := (h6.2.2 rfl).1
      rw [this] at hk
      simp [Value.ownBlock] at hk
    · rw [h6] at hk
      simp only [Value.ownBlock, Option.some.injEq] at hk
      rw [h7, hk]
  have hlk : live σ bk := live_l hσ
  have hp1 := hp.kill (b := bk) (e := e) hm
  have hliv : ∀ j, j < σ.length → live (σ.set bk (deadC, e)) j → live σ j ∧ j ≠ bk := by
    intro j hj hl
    have hjb : j ≠ bk := by
      intro he
      subst he
      exact hl e (List.getElem?_set_self hj)
    refine ⟨fun t' he => hl t' ?_, hjb⟩
    rw [List.getElem?_set_ne (Ne.symm hjb)]; exact he
  have hne : ∀ j, j < σ.length → live (σ.set bk (deadC, e)) j → ∀ k, (β j).adr = some k → (β bk).adr ≠ some k := by
    intro j hj hl k hk hkb
    obtain ⟨hl1, hjb⟩ := hliv j hj hl
    by_cases hmj : j < σ0.length
    · rw [hp.ext j hmj] at hk
      have h3 := hp.low j hmj k hk
      have h4 := hp.own bk hm hbk k hkb
      omega
    · rcases Nat.lt_or_gt_of_ne hjb with h3 | h3
      · exact hp.inj j bk (by omega) h3 hbk hl1 hlk k hk hkb
      · exact hp.inj bk j hm h3 hj hlk hl1 k hkb hk
  have hq : W.heap.size ≤ g := by
    rcases hown'.2 with ⟨h3, _⟩ | ⟨q, cap', cur, h3, h4, _⟩
    · cases h3
    · simp only [Value.slice.injEq, Option.some.injEq, Addr.mk.injEq] at h3
      rw [h3.1.1]; exact h4
  have hlen : (σ.set bk (deadC, e)).length = σ.length := by simp
  have hflat : flat (inOrder (newRow z c2 :: rows) true) = flat (inOrder rows true) ++ c2 := by
    simp [inOrder, flat, hr2]
  have key := hp1.newAt (w' := w') (lstC (newRow z c2 :: rows) true z) e ⟨some g, some ⟨g, 0, none⟩, rows.length + 1, cap, (β bk).sz⟩
    (fun j hj hl k hk => hgr.block k (hp1.up j hj k hk) (fun he => hne j (by omega) hl k hk (hb0 k he.symm)))
    hgr.size
    (hp.below.trans ⟨hgr.os, hgr.tape, hgr.output, by have := hp.below.size; have := hgr.size; omega, fun k hk => hgr.block k (by have := hp.below.size; omega) (fun he => by have := hp.own bk hm hbk k (hb0 k he.symm); omega)⟩)
    (fun hh => by simp [isN, lstC] at hh)
    (fun rows' g' z' he => by
      simp only [lstC, Array.mk.injEq, List.cons.injEq, Value.tuple.injEq, Value.bool.injEq, and_true] at he
      obtain ⟨rfl, rfl, rfl⟩ := he
      refine ⟨by simp [inOrder_len], ?_, L.szp, L.szz, .inr ?_, fun _ => ?_⟩
      · intro r hr
        simp only [inOrder, List.reverse_cons, List.mem_append, List.mem_singleton] at hr
        rcases hr with hr | rfl
        · exact L.row r hr
        · refine ⟨hr1, ?_, fun x hx => ?_⟩
          · rw [← Array.length_toList, hr2, hr3, L.szz]
          · rw [hr2] at hx; exact (hr4 x hx).2
      · rcases hown'.2 with ⟨h3, _⟩ | ⟨q, cap', cur, h3, h4, h5, h6, h7, h8, h9⟩
        · cases h3
        · simp only [Value.slice.injEq, Option.some.injEq, Addr.mk.injEq] at h3
          refine ⟨g, 0, cur, (0, 0), rfl, rfl, ?_, ?_⟩
          · rw [h3.1.1]; exact h5
          · rw [List.drop_zero, hflat, ← h9, inOrder_len]; rfl
      · rw [hflat, inOrder_len]
        refine ⟨hown'.1, ?_⟩
        rcases hown'.2 with h3 | ⟨q, cap', cur, h3, h4, h5⟩
        · exact .inl h3
        · exact .inr ⟨q, cap', cur, h3, Nat.zero_le _, h5⟩)
    (fun k hk => by
      simp only [Option.some.injEq] at hk
      subst hk
      refine ⟨hq, hlt, fun j hj hl he => ?_⟩
      rcases hwh with h3 | h3
      · exact hne j (by omega) hl g he (hb0 g h3)
      · have := hp1.up j hj g he
        omega)
  obtain ⟨β', h3, h4, h5⟩ := key
  refine ⟨β', w', fun j hj => h3 j (by omega), h5, ?_⟩
  have e1 : rl β (.slice (some ⟨bk, n1, some sp⟩) n2 n3) = .slice (β bk).ha (β bk).hl (β bk).hc := rfl
  have e2 : rl β (.slice (some ⟨b2, 0, none⟩) 1 n4) = .slice (some ⟨(β b2).blk, 0, none⟩) 1 n4 := rfl
  have e3 : rl β' (hdrV σ.length) = .slice (some ⟨g, 0, none⟩) (rows.length + 1) cap := by
    rw [hlen] at h4
    simp [hdrV, rl, mvS, h4]
  rw [e1, e2, e3]
  exact hrun

end Go.RX
