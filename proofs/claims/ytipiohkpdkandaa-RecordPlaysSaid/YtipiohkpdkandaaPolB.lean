/-
  Right of a policy: walks. Conditions: none.
-/
import Derived.Test.YtipiohkpdkandaaPolA
import Derived.Deep.QuietTactic
import Derived.BigQuiet
import Derived.Deep.WholeRow
import Derived.Deep.CutBlock
namespace Go.Proofs.Ytipiohkpdkandaa
set_option linter.unusedVariables false
set_option linter.unusedSimpArgs false
open Go.RowKit

section
variable {P : Program}
theorem at_list {ops : Array Oper} {l : List Oper} {a : Act} {w : World} {Q : Exit → Act → World → Prop} (h : wpList P ops Q l a w) : wpList P ops Q l a w := h
theorem wpList_store_new {ops : Array Oper} {rest : List Oper} {o : Oper} {a : Act} {w : World} {Q : Exit → Act → World → Prop} (hgd : o.guard = none) (ty : TypeId) (x y : Operand) (ho : o.op = .store ty x y)
    (cells cur : Array Value) (hx : a.eval x = .pointer (some ⟨w.heap.size, 0, none⟩)) (hy : a.eval y = .agg cells) (hl : cells.size = cur.size) (hi : (P.info? ty).map (·.size) = some cells.size) (h1 : cells.all (·.oneCell') = true)
    (h : wpList P ops Q rest (a.put o.dst undef) (w.alloc (.cells cells ty))) : wpList P ops Q (o :: rest) a (w.alloc (.cells cur ty)) :=
  wpList_store_row hgd ty x y ho w.heap.size cells cur ty hx hy (heap_alloc_new w _) hl hi h1 (by rw [World.setRow_alloc_new]; exact h)
end
/-- a policy -/
structure Pol where
  (kind cap num den width count keys slots every seg : Int)
def Pol.cells (p : Pol) : List Value := [.int .i64 p.kind, .int .i64 p.cap, .int .i64 p.num, .int .i64 p.den, .int .i64 p.width, .int .i64 p.count, .int .i64 p.keys, .int .i64 p.slots, .int .i64 p.every, .int .i64 p.seg]
/-- may a policy be? -/
def Pol.ok (p : Pol) : Prop :=
  (p.kind = 1 ∧ p.width = 0 ∧ p.count = 0 ∧ (1 ≤ p.num ∧ p.num ≤ 65536) ∧ (1 ≤ p.den ∧ p.den ≤ 65536) ∨ p.kind = 2 ∧ p.num = 0 ∧ p.den = 0 ∧ (1 ≤ p.width ∧ p.width ≤ 1048576) ∧ (1 ≤ p.count ∧ p.count ≤ 32)) ∧
  (1 ≤ p.cap ∧ p.cap ≤ 1048576) ∧ (1 ≤ p.keys ∧ p.keys ≤ 1000) ∧ (1 ≤ p.slots ∧ p.slots ≤ 64) ∧ (0 ≤ p.every ∧ p.every ≤ 1000) ∧ (1 ≤ p.seg ∧ p.seg ≤ 1000)
open Classical in
noncomputable def rightF (p : Pol) : Int := if p.ok then 0 else 40
def RightIs (w : World) (p : Pol) (e : Ending) (w' : World) : Prop := e = .returned (.int .i64 (rightF p)) ∧ Below w.heap.size w w'

/-- one of the fields, as the loop reads it -/
def FieldAt (w : World) (c : Array Value) (g k : Nat) (ok : Prop) : Prop :=
  ∃ (off : Nat) (lo hi x : Int), (∀ w', (Instr.index 126 (.agg c) (.int .i64 k)).run Try.prog w' = .ok (.agg #[.pointer (some ⟨g, off, none⟩), .int .i64 lo, .int .i64 hi]) w') ∧ w.cell? ⟨g, off, none⟩ = some (.int .i64 x) ∧ (ok ↔ lo ≤ x ∧ x ≤ hi)

theorem no_right {p : Pol} (h : ¬ p.ok) : Ending.returned (.int .i64 40) = .returned (.int .i64 (rightF p)) := by rw [rightF, if_neg h]
theorem yes_right {p : Pol} (h : p.ok) : Ending.returned (.int .i64 0) = .returned (.int .i64 (rightF p)) := by rw [rightF, if_pos h]
theorem below_of_block {w wr : World} {o : Obj} (h : Below (w.heap.size + 1) (w.alloc o) wr) : Below w.heap.size w wr := ((Below.refl _ _).alloc (Nat.le_refl _) o).trans (h.mono (Nat.le_succ _))
theorem right_round {w wr : World} {o o' : Obj} {n : Nat} (h : Below (w.heap.size + 1) (w.alloc o) wr) : Below (w.heap.size + 1) (w.alloc o) ((wr.alloc o').drewN n) := by
  have h1 := h.alloc (by have := h.size; simpa using this) o'
  exact ⟨h1.os, h1.tape, h1.output, h1.size, h1.block⟩
theorem right_end {w wr : World} {o o' : Obj} {n : Nat} (h : Below (w.heap.size + 1) (w.alloc o) wr) : Below w.heap.size w ((wr.alloc o').drewN n) := below_of_block (right_round h)
set_option maxRecDepth 100000 in
set_option maxHeartbeats 4000000 in
theorem right_loop (w : World) (p : Pol) (c : Array Value) (oks : Nat → Prop) (hsz : c.size = 24) (hone : c.all (·.oneCell') = true)
    (hg : p.kind = 1 ∧ p.width = 0 ∧ p.count = 0 ∨ p.kind = 2 ∧ p.num = 0 ∧ p.den = 0)
    (hf : ∀ k, k < 8 → FieldAt (w.alloc (.cells p.cells.toArray 23)) c w.heap.size k (oks k)) (hok : p.ok ↔ ∀ k, k < 8 → oks k)
    (hcall : Calls Try.prog 64 #[.pointer (some ⟨w.heap.size, 0, none⟩)] (w.alloc (.cells p.cells.toArray 23)) (fun e w' => e = .returned (.tuple #[.agg c, .bool true]) ∧ Below (w.heap.size + 1) (w.alloc (.cells p.cells.toArray 23)) w')) :
    Calls Try.prog 43 #[.agg p.cells.toArray] w (RightIs w p) := by
  obtain ⟨kind, cap, num, den, width, count, keys, slots, every, seg⟩ := p
  have HF := Lib.hid (And.intro hsz (And.intro hone (And.intro hf hok)))
  clear hsz hone hf hok
  unfold Pol.cells at hcall HF ⊢
  simp only at hcall HF hg ⊢
  rcases hg with ⟨rfl, rfl, rfl⟩ | ⟨rfl, rfl, rfl⟩
  · go_enter Try.func43, Try.ntmps43
    go_wp2_with fail
    refine hcall.mono ?_
    rintro e w1 ⟨rfl, hb⟩
    have H1 := Lib.hid hb
    have hs : w.heap.size + 1 ≤ w1.heap.size := by have := hb.size; simpa using this
    have hlt : w.heap.size < w1.heap.size := by omega
    have hc := fun (o : Nat) (v : Value) (h : (w.alloc (.cells #[.int .i64 1, .int .i64 cap, .int .i64 num, .int .i64 den, .int .i64 0, .int .i64 0, .int .i64 keys, .int .i64 slots, .int .i64 every, .int .i64 seg] 23)).cell? ⟨w.heap.size, o, none⟩ = some v) => (hb.cell (p := ⟨w.heap.size, o, none⟩) (Nat.lt_succ_self _)).trans h
    have c0 := hc 0 (.int .i64 1) (by simp)
    have c4 := hc 4 (.int .i64 0) (by simp)
    have c5 := hc 5 (.int .i64 0) (by simp)
    clear hcall hb hc
    go_upto_region 2 with ((with_reducible refine at_list ?_); refine wpList_store_new rfl 126 (.tmp 3) (.tmp 9) rfl c _ rfl rfl (by rw [HF.out.1]; rfl) (by rw [HF.out.1]; exact sizeFields) HF.out.2.1 ?_)
    go_upto_region 4 with fail
    go_upto_block 0 with ((with_reducible refine at_list ?_); refine wpList_load_row rfl 126 (.tmp 3) rfl w1.heap.size rfl 126 c (0, 0) _ (heap_alloc_new w1 _) Try.underlying126 rfl (by rw [HF.out.1]; exact sizeFields) ?_)
    go_wp2_with fail
    have hB : Below (w.heap.size + 1) (w.alloc (.cells #[.int .i64 1, .int .i64 cap, .int .i64 num, .int .i64 den, .int .i64 0, .int .i64 0, .int .i64 keys, .int .i64 slots, .int .i64 every, .int .i64 seg] 23)) (w1.alloc (.cells c 126)) := H1.out.alloc hs _
    go_loopg [44] 8 (fun gk v44 wr => ∃ k : Nat, v44 = .int .i64 k ∧ gk + k = 8 ∧ (∀ j, j < k → oks j) ∧ Below (w.heap.size + 1) (w.alloc (.cells #[.int .i64 1, .int .i64 cap, .int .i64 num, .int .i64 den, .int .i64 0, .int .i64 0, .int .i64 keys, .int .i64 slots, .int .i64 every, .int .i64 seg] 23)) wr)
    case atStart => exact ⟨0, rfl, rfl, fun j hj => absurd hj (Nat.not_lt_zero _), hB⟩
    case round =>
      clear c0 c4 c5 hB
      obtain ⟨k, rfl, hk, hall, hbr⟩ := hrel
      by_cases hk8 : k < 8
      · obtain ⟨off, lo, hi, x, hidx, hcell, hiff⟩ := HF.out.2.2.1 k hk8
        have hidx := fun w' => hidx w'
        have hx := (hbr.cell (p := ⟨w.heap.size, off, none⟩) (Nat.lt_succ_self _)).trans hcell
        have hsr := hbr.size
        have hki : (k : Int) < 8 := by omega
        have hsz : w.heap.size < wr.heap.size := by simp at hsr; omega
        have hcs : x < lo ∨ (lo ≤ x ∧ hi < x) ∨ (lo ≤ x ∧ x ≤ hi) := by omega
        have HB := Lib.hid (And.intro hbr (And.intro hall hiff))
        clear hcell hiff hall hbr hsr
        rcases hcs with h1 | ⟨h1, h2⟩ | ⟨h1, h2⟩
        · have d1 : decide (x < lo) = true := by simpa using h1
          go_wp2_with fail
          go_quiet (fail)
          go_wp2
          go_ret
          exact ⟨no_right (fun h => by have := HB.out.2.2.1 ((HF.out.2.2.2.1 h) k hk8); omega), by as_aux_lemma => exact right_end HB.out.1⟩
        · go_wp2_with fail
          go_quiet (fail)
          go_wp2
          go_ret
          exact ⟨no_right (fun h => by have := HB.out.2.2.1 ((HF.out.2.2.2.1 h) k hk8); omega), by as_aux_lemma => exact right_end HB.out.1⟩
        · go_wp2_with fail
          go_quiet (fail)
          go_wp2
          go_roundg (7 - k)
          case measure => omega
          case rel => exact ⟨k + 1, by go_num, by omega, fun j hj => by
            rcases Nat.lt_succ_iff_lt_or_eq.1 hj with h | rfl
            · exact HB.out.2.1 j h
            · exact HB.out.2.2.2 ⟨h1, h2⟩, right_round HB.out.1⟩
      · obtain rfl : k = 8 := by omega
        have HB := Lib.hid (And.intro hbr hall)
        clear hbr hall
        go_wp2_with fail
        go_ret
        exact ⟨yes_right (HF.out.2.2.2.2 HB.out.2), below_of_block HB.out.1⟩
  · go_enter Try.func43, Try.ntmps43
    go_wp2_with fail
    refine hcall.mono ?_
    rintro e w1 ⟨rfl, hb⟩
    have H1 := Lib.hid hb
    have hs : w.heap.size + 1 ≤ w1.heap.size := by have := hb.size; simpa using this
    have hlt : w.heap.size < w1.heap.size := by omega
    have hc := fun (o : Nat) (v : Value) (h : (w.alloc (.cells #[.int .i64 2, .int .i64 cap, .int .i64 0, .int .i64 0, .int .i64 width, .int .i64 count, .int .i64 keys, .int .i64 slots, .int .i64 every, .int .i64 seg] 23)).cell? ⟨w.heap.size, o, none⟩ = some v) => (hb.cell (p := ⟨w.heap.size, o, none⟩) (Nat.lt_succ_self _)).trans h
    have c0 := hc 0 (.int .i64 2) (by simp)
    have c4 := hc 2 (.int .i64 0) (by simp)
    have c5 := hc 3 (.int .i64 0) (by simp)
    clear hcall hb hc
    go_upto_region 2 with ((with_reducible refine at_list ?_); refine wpList_store_new rfl 126 (.tmp 3) (.tmp 9) rfl c _ rfl rfl (by rw [HF.out.1]; rfl) (by rw [HF.out.1]; exact sizeFields) HF.out.2.1 ?_)
    go_upto_region 4 with fail
    go_upto_block 0 with ((with_reducible refine at_list ?_); refine wpList_load_row rfl 126 (.tmp 3) rfl w1.heap.size rfl 126 c (0, 0) _ (heap_alloc_new w1 _) Try.underlying126 rfl (by rw [HF.out.1]; exact sizeFields) ?_)
    go_wp2_with fail
    have hB : Below (w.heap.size + 1) (w.alloc (.cells #[.int .i64 2, .int .i64 cap, .int .i64 0, .int .i64 0, .int .i64 width, .int .i64 count, .int .i64 keys, .int .i64 slots, .int .i64 every, .int .i64 seg] 23)) (w1.alloc (.cells c 126)) := H1.out.alloc hs _
    go_loopg [44] 8 (fun gk v44 wr => ∃ k : Nat, v44 = .int .i64 k ∧ gk + k = 8 ∧ (∀ j, j < k → oks j) ∧ Below (w.heap.size + 1) (w.alloc (.cells #[.int .i64 2, .int .i64 cap, .int .i64 0, .int .i64 0, .int .i64 width, .int .i64 count, .int .i64 keys, .int .i64 slots, .int .i64 every, .int .i64 seg] 23)) wr)
    case atStart => exact ⟨0, rfl, rfl, fun j hj => absurd hj (Nat.not_lt_zero _), hB⟩
    case round =>
      clear c0 c4 c5 hB
      obtain ⟨k, rfl, hk, hall, hbr⟩ := hrel
      by_cases hk8 : k < 8
      · obtain ⟨off, lo, hi, x, hidx, hcell, hiff⟩ := HF.out.2.2.1 k hk8
        have hidx := fun w' => hidx w'
        have hx := (hbr.cell (p := ⟨w.heap.size, off, none⟩) (Nat.lt_succ_self _)).trans hcell
        have hsr := hbr.size
        have hki : (k : Int) < 8 := by omega
        have hsz : w.heap.size < wr.heap.size := by simp at hsr; omega
        have hcs : x < lo ∨ (lo ≤ x ∧ hi < x) ∨ (lo ≤ x ∧ x ≤ hi) := by omega
        have HB := Lib.hid (And.intro hbr (And.intro hall hiff))
        clear hcell hiff hall hbr hsr
        rcases hcs with h1 | ⟨h1, h2⟩ | ⟨h1, h2⟩
        · have d1 : decide (x < lo) = true := by simpa using h1
          go_wp2_with fail
          go_quiet (fail)
          go_wp2
          go_ret
          exact ⟨no_right (fun h => by have := HB.out.2.2.1 ((HF.out.2.2.2.1 h) k hk8); omega), by as_aux_lemma => exact right_end HB.out.1⟩
        · go_wp2_with fail
          go_quiet (fail)
          go_wp2
          go_ret
          exact ⟨no_right (fun h => by have := HB.out.2.2.1 ((HF.out.2.2.2.1 h) k hk8); omega), by as_aux_lemma => exact right_end HB.out.1⟩
        · go_wp2_with fail
          go_quiet (fail)
          go_wp2
          go_roundg (7 - k)
          case measure => omega
          case rel => exact ⟨k + 1, by go_num, by omega, fun j hj => by
            rcases Nat.lt_succ_iff_lt_or_eq.1 hj with h | rfl
            · exact HB.out.2.1 j h
            · exact HB.out.2.2.2 ⟨h1, h2⟩, right_round HB.out.1⟩
      · obtain rfl : k = 8 := by omega
        have HB := Lib.hid (And.intro hbr hall)
        clear hbr hall
        go_wp2_with fail
        go_ret
        exact ⟨yes_right (HF.out.2.2.2.2 HB.out.2), below_of_block HB.out.1⟩

set_option maxRecDepth 100000 in
set_option maxHeartbeats 4000000 in
/-- the guards say no -/
theorem right_no (w : World) (p : Pol) (c : Array Value) (b : Bool) (hsz : c.size = 24) (hone : c.all (·.oneCell') = true)
    (hg : b = false ∨ b = true ∧ (p.kind = 1 ∧ (p.width ≠ 0 ∨ p.count ≠ 0) ∨ p.kind = 2 ∧ (p.num ≠ 0 ∨ p.den ≠ 0)))
    (hok : ¬ p.ok)
    (hcall : Calls Try.prog 64 #[.pointer (some ⟨w.heap.size, 0, none⟩)] (w.alloc (.cells p.cells.toArray 23)) (fun e w' => e = .returned (.tuple #[.agg c, .bool b]) ∧ Below (w.heap.size + 1) (w.alloc (.cells p.cells.toArray 23)) w')) :
    Calls Try.prog 43 #[.agg p.cells.toArray] w (RightIs w p) := by
  obtain ⟨kind, cap, num, den, width, count, keys, slots, every, seg⟩ := p
  have HF := Lib.hid (And.intro hsz (And.intro hone hok))
  clear hsz hone hok
  unfold Pol.cells at hcall ⊢
  simp only at hcall HF hg ⊢
  have hcs : (b = false) ∨ (b = true ∧ kind = 1 ∧ (width == 0) = false ∧ (width != 0) = true ∧ width ≠ 0) ∨ (b = true ∧ kind = 1 ∧ width = 0 ∧ (count == 0) = false ∧ (count != 0) = true ∧ count ≠ 0)
      ∨ (b = true ∧ kind = 2 ∧ (num == 0) = false ∧ (num != 0) = true ∧ num ≠ 0) ∨ (b = true ∧ kind = 2 ∧ num = 0 ∧ (den == 0) = false ∧ (den != 0) = true ∧ den ≠ 0) := by
    rcases hg with h | ⟨h, ⟨h1, h2⟩ | ⟨h1, h2⟩⟩
    · exact .inl h
    · by_cases hw : width = 0
      · have : count ≠ 0 := by rcases h2 with h2 | h2 <;> first | exact absurd hw h2 | exact h2
        exact .inr (.inr (.inl ⟨h, h1, hw, by simpa using this, by simpa using this, this⟩))
      · exact .inr (.inl ⟨h, h1, by simpa using hw, by simpa using hw, hw⟩)
    · by_cases hw : num = 0
      · have : den ≠ 0 := by rcases h2 with h2 | h2 <;> first | exact absurd hw h2 | exact h2
        exact .inr (.inr (.inr (.inr ⟨h, h1, hw, by simpa using this, by simpa using this, this⟩)))
      · exact .inr (.inr (.inr (.inl ⟨h, h1, by simpa using hw, by simpa using hw, hw⟩)))
  clear hg
  rcases hcs with rfl | ⟨rfl, rfl, e1, e2, e3⟩ | ⟨rfl, rfl, rfl, e1, e2, e3⟩ | ⟨rfl, rfl, e1, e2, e3⟩ | ⟨rfl, rfl, rfl, e1, e2, e3⟩
  all_goals
    go_enter Try.func43, Try.ntmps43
    go_wp2_with fail
    refine hcall.mono ?_
    rintro e w1 ⟨rfl, hb⟩
    have H1 := Lib.hid hb
    have hs : w.heap.size + 1 ≤ w1.heap.size := by have := hb.size; simpa using this
    have hlt : w.heap.size < w1.heap.size := by omega
    have c0 := (hb.cell (p := ⟨w.heap.size, 0, none⟩) (Nat.lt_succ_self _)).trans (by simp; rfl)
    have c2 := (hb.cell (p := ⟨w.heap.size, 2, none⟩) (Nat.lt_succ_self _)).trans (by simp; rfl)
    have c3 := (hb.cell (p := ⟨w.heap.size, 3, none⟩) (Nat.lt_succ_self _)).trans (by simp; rfl)
    have c4 := (hb.cell (p := ⟨w.heap.size, 4, none⟩) (Nat.lt_succ_self _)).trans (by simp; rfl)
    have c5 := (hb.cell (p := ⟨w.heap.size, 5, none⟩) (Nat.lt_succ_self _)).trans (by simp; rfl)
    clear hcall hb
    go_upto_region 2 with ((with_reducible refine at_list ?_); refine wpList_store_new rfl 126 (.tmp 3) (.tmp 9) rfl c _ rfl rfl (by rw [HF.out.1]; rfl) (by rw [HF.out.1]; exact sizeFields) HF.out.2.1 ?_)
    go_wp2_with fail
    go_ret
    exact ⟨no_right HF.out.2.2, below_of_block (H1.out.alloc hs _)⟩

theorem fieldAt_mk {w : World} {c : Array Value} {p : Pol} {k : Nat} {ok : Prop} (off : Nat) (lo hi x : Int) (h1 : ∀ w', (Instr.index 126 (.agg c) (.int .i64 k)).run Try.prog w' = .ok (.agg #[.pointer (some ⟨w.heap.size, off, none⟩), .int .i64 lo, .int .i64 hi]) w')
    (h2 : p.cells[off]? = some (.int .i64 x)) (h3 : ok ↔ lo ≤ x ∧ x ≤ hi) : FieldAt (w.alloc (.cells p.cells.toArray 23)) c w.heap.size k ok :=
  ⟨off, lo, hi, x, h1, by simp [h2], h3⟩
theorem flds_size (g : Nat) (x y : List Value) (hx : x.length = 3) (hy : y.length = 3) : (flds g x y).toArray.size = 24 := by simp [flds, fld, hx, hy]
set_option maxRecDepth 100000 in
/-- Right of any policy. -/
theorem right_any (w : World) (p : Pol) : Calls Try.prog 43 #[.agg p.cells.toArray] w (RightIs w p) := by
  have h0 : (w.alloc (.cells p.cells.toArray 23)).cell? ⟨w.heap.size, 0, none⟩ = some (.int .i64 p.kind) := by unfold Pol.cells; simp
  have hB : ∀ (l : List Value) (b : Bool) (e : Ending) (w' : World), FieldsAre (w.alloc (.cells p.cells.toArray 23)) l b e w' → e = .returned (.tuple #[.agg l.toArray, .bool b]) ∧ Below (w.heap.size + 1) (w.alloc (.cells p.cells.toArray 23)) w' := by
    rintro l b e w' ⟨h1, h2⟩
    exact ⟨h1, by simpa using h2⟩
  by_cases h1 : p.kind = 1
  · have hcall := (fields_1 _ w.heap.size (by rw [h0, h1])).mono (hB _ _)
    by_cases hg : p.width = 0 ∧ p.count = 0
    · refine right_loop w p _ (fun k => match k with | 0 => 1 ≤ p.kind ∧ p.kind ≤ 2 | 1 => 1 ≤ p.cap ∧ p.cap ≤ 1048576 | 2 => 1 ≤ p.num ∧ p.num ≤ 65536 | 3 => 1 ≤ p.den ∧ p.den ≤ 65536 | 4 => 1 ≤ p.keys ∧ p.keys ≤ 1000 | 5 => 1 ≤ p.slots ∧ p.slots ≤ 64 | 6 => 0 ≤ p.every ∧ p.every ≤ 1000 | _ => 1 ≤ p.seg ∧ p.seg ≤ 1000)
        (flds_size _ _ _ rfl rfl) (by kernel_rfl) (.inl ⟨h1, hg.1, hg.2⟩) ?_ ?_ hcall
      · intro k hk
        match k, hk with
        | 0, _ => exact fieldAt_mk 0 _ _ _ (fun _ => by kernel_rfl) rfl Iff.rfl
        | 1, _ => exact fieldAt_mk 1 _ _ _ (fun _ => by kernel_rfl) rfl Iff.rfl
        | 2, _ => exact fieldAt_mk 2 _ _ _ (fun _ => by kernel_rfl) rfl Iff.rfl
        | 3, _ => exact fieldAt_mk 3 _ _ _ (fun _ => by kernel_rfl) rfl Iff.rfl
        | 4, _ => exact fieldAt_mk 6 _ _ _ (fun _ => by kernel_rfl) rfl Iff.rfl
        | 5, _ => exact fieldAt_mk 7 _ _ _ (fun _ => by kernel_rfl) rfl Iff.rfl
        | 6, _ => exact fieldAt_mk 8 _ _ _ (fun _ => by kernel_rfl) rfl Iff.rfl
        | 7, _ => exact fieldAt_mk 9 _ _ _ (fun _ => by kernel_rfl) rfl Iff.rfl
      · constructor
        · rintro ⟨h2, h3⟩ k hk
          match k, hk with
          | 0, _ | 1, _ | 2, _ | 3, _ | 4, _ | 5, _ | 6, _ | 7, _ => refine ⟨?_, ?_⟩ <;> omega
        · intro h
          have a1 : 1 ≤ p.cap ∧ p.cap ≤ 1048576 := h 1 (by decide); have a2 : 1 ≤ p.num ∧ p.num ≤ 65536 := h 2 (by decide); have a3 : 1 ≤ p.den ∧ p.den ≤ 65536 := h 3 (by decide); have a4 : 1 ≤ p.keys ∧ p.keys ≤ 1000 := h 4 (by decide); have a5 : 1 ≤ p.slots ∧ p.slots ≤ 64 := h 5 (by decide); have a6 : 0 ≤ p.every ∧ p.every ≤ 1000 := h 6 (by decide); have a7 : 1 ≤ p.seg ∧ p.seg ≤ 1000 := h 7 (by decide)
          exact ⟨.inl ⟨h1, hg.1, hg.2, a2, a3⟩, a1, a4, a5, a6, a7⟩
    · exact right_no w p _ true (flds_size _ _ _ rfl rfl) (by kernel_rfl) (.inr ⟨rfl, .inl ⟨h1, by omega⟩⟩) (fun h => by obtain ⟨h, _⟩ := h; omega) hcall
  · by_cases h2 : p.kind = 2
    · have hcall := (fields_2 _ w.heap.size (by rw [h0, h2])).mono (hB _ _)
      by_cases hg : p.num = 0 ∧ p.den = 0
      · refine right_loop w p _ (fun k => match k with | 0 => 1 ≤ p.kind ∧ p.kind ≤ 2 | 1 => 1 ≤ p.cap ∧ p.cap ≤ 1048576 | 2 => 1 ≤ p.width ∧ p.width ≤ 1048576 | 3 => 1 ≤ p.count ∧ p.count ≤ 32 | 4 => 1 ≤ p.keys ∧ p.keys ≤ 1000 | 5 => 1 ≤ p.slots ∧ p.slots ≤ 64 | 6 => 0 ≤ p.every ∧ p.every ≤ 1000 | _ => 1 ≤ p.seg ∧ p.seg ≤ 1000)
          (flds_size _ _ _ rfl rfl) (by kernel_rfl) (.inr ⟨h2, hg.1, hg.2⟩) ?_ ?_ hcall
        · intro k hk
          match k, hk with
          | 0, _ => exact fieldAt_mk 0 _ _ _ (fun _ => by kernel_rfl) rfl Iff.rfl
          | 1, _ => exact fieldAt_mk 1 _ _ _ (fun _ => by kernel_rfl) rfl Iff.rfl
          | 2, _ => exact fieldAt_mk 4 _ _ _ (fun _ => by kernel_rfl) rfl Iff.rfl
          | 3, _ => exact fieldAt_mk 5 _ _ _ (fun _ => by kernel_rfl) rfl Iff.rfl
          | 4, _ => exact fieldAt_mk 6 _ _ _ (fun _ => by kernel_rfl) rfl Iff.rfl
          | 5, _ => exact fieldAt_mk 7 _ _ _ (fun _ => by kernel_rfl) rfl Iff.rfl
          | 6, _ => exact fieldAt_mk 8 _ _ _ (fun _ => by kernel_rfl) rfl Iff.rfl
          | 7, _ => exact fieldAt_mk 9 _ _ _ (fun _ => by kernel_rfl) rfl Iff.rfl
        · constructor
          · rintro ⟨h2, h3⟩ k hk
            match k, hk with
            | 0, _ | 1, _ | 2, _ | 3, _ | 4, _ | 5, _ | 6, _ | 7, _ => refine ⟨?_, ?_⟩ <;> omega
          · intro h
            have a1 : 1 ≤ p.cap ∧ p.cap ≤ 1048576 := h 1 (by decide); have a2 : 1 ≤ p.width ∧ p.width ≤ 1048576 := h 2 (by decide); have a3 : 1 ≤ p.count ∧ p.count ≤ 32 := h 3 (by decide); have a4 : 1 ≤ p.keys ∧ p.keys ≤ 1000 := h 4 (by decide); have a5 : 1 ≤ p.slots ∧ p.slots ≤ 64 := h 5 (by decide); have a6 : 0 ≤ p.every ∧ p.every ≤ 1000 := h 6 (by decide); have a7 : 1 ≤ p.seg ∧ p.seg ≤ 1000 := h 7 (by decide)
            exact ⟨.inr ⟨h2, hg.1, hg.2, a2, a3⟩, a1, a4, a5, a6, a7⟩
      · exact right_no w p _ true (flds_size _ _ _ rfl rfl) (by kernel_rfl) (.inr ⟨rfl, .inr ⟨h2, by omega⟩⟩) (fun h => by obtain ⟨h, _⟩ := h; omega) hcall
    · have hcall := (fields_x _ w.heap.size p.kind h0 (by simpa using h1) (by simpa using h2) h1 h2).mono (hB _ _)
      exact right_no w p _ false (flds_size _ _ _ rfl rfl) (by kernel_rfl) (.inl rfl) (fun h => by obtain ⟨h, _⟩ := h; omega) hcall
end Go.Proofs.Ytipiohkpdkandaa
