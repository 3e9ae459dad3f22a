/-
  A policy's fields: walks. Conditions: none.
-/
import Derived.Test.YtipiohkpdkandaaProg
import Derived.Test.YtipiohkpdkandaaLib
import Derived.Test.YtipiohkpdkandaaPure
import Derived.Laws.ResultCell
import Derived.Laws.CopyRow
import Derived.Laws.Rows
import Derived.Laws.Tables
namespace Go.Proofs.Ytipiohkpdkandaa
set_option linter.unusedVariables false
set_option linter.unusedSimpArgs false
open Go.RowKit
section
variable {P : Program}
/-- A value of several cells into a part of a block. -/
theorem exec_store_part {a : Act} {o : Oper} {w : World} (ty : TypeId) (x y : Operand) (ho : o.op = .store ty x y) (b off : Nat) (cells cur new : Array Value) (t : TypeId) (hx : a.eval x = .pointer (some ⟨b, off, none⟩)) (hy : a.eval y = .agg cells)
    (hb : w.heap[b]? = some (.cells cur t (0, 0))) (hl : off + cells.size ≤ cur.size) (hi : (P.info? ty).map (·.size) = some cells.size) (h1 : cells.all (·.oneCell') = true)
    (hn : (cur.toList.take off ++ cells.toList ++ cur.toList.drop (off + cells.size)).toArray = new) : (execOp a.eval o).run P w = .ok .skip (w.setRow b new) := by
  have hst := run_storeCells_at (P := P) b off t cells.toList 0 cur w hb (by simpa using hl) (fun v hv => (Array.all_eq_true_iff_forall_mem.1 h1) v (by simpa using hv))
  simp only [Nat.add_zero, Array.length_toList, hn] at hst
  unfold execOp
  cases hq : P.info? ty with
  | none => simp [hq] at hi
  | some i =>
    have hs : cells.size = i.size := by simp [hq] at hi; omega
    simp [ho, hx, hy, Instr.storeAt, Instr.sureAddr, storeVar, sizeOf, typeInfo, hq, Value.cells, hs, hst, Result.andThen]
theorem wpList_store_row {ops : Array Oper} {rest : List Oper} {o : Oper} {a : Act} {w : World} {Q : Exit → Act → World → Prop} (hgd : o.guard = none) (ty : TypeId) (x y : Operand) (ho : o.op = .store ty x y)
    (b : Nat) (cells cur : Array Value) (t : TypeId) (hx : a.eval x = .pointer (some ⟨b, 0, none⟩)) (hy : a.eval y = .agg cells)
    (hb : w.heap[b]? = some (.cells cur t (0, 0))) (hl : cells.size = cur.size) (hi : (P.info? ty).map (·.size) = some cells.size) (h1 : cells.all (·.oneCell') = true)
    (h : wpList P ops Q rest (a.put o.dst undef) (w.setRow b cells)) : wpList P ops Q (o :: rest) a w := by
  refine wpList_plain hgd fun _ hK => ?_
  unfold Oper.wp
  rw [exec_store_part ty x y ho b 0 cells cur cells t hx hy hb (by omega) hi h1 (by rw [Nat.zero_add, hl, ← Array.length_toList, List.drop_length]; simp)]
  simp only [Oper.upon]
  exact hK _ _ h
end
/-- one field: where it stands, its bounds -/
def fld (g off : Nat) (lo hi : Int) : List Value := [.pointer (some ⟨g, off, none⟩), .int .i64 lo, .int .i64 hi]
def fld0 : List Value := [.pointer none, .int .i64 0, .int .i64 0]
def flds (g : Nat) (x y : List Value) : List Value := fld g 0 1 2 ++ fld g 1 1 1048576 ++ x ++ y ++ fld g 6 1 1000 ++ fld g 7 1 64 ++ fld g 8 0 1000 ++ fld g 9 1 1000
def FieldsAre (w : World) (l : List Value) (b : Bool) (e : Ending) (w' : World) : Prop := e = .returned (.tuple #[.agg l.toArray, .bool b]) ∧ Below w.heap.size w w'
def Z1 : Array Value := #[.pointer none, .int .i64 0, .int .i64 0, .pointer none, .int .i64 0, .int .i64 0, .pointer none, .int .i64 0, .int .i64 0, .pointer none, .int .i64 0, .int .i64 0, .pointer none, .int .i64 0, .int .i64 0, .pointer none, .int .i64 0, .int .i64 0, .pointer none, .int .i64 0, .int .i64 0, .pointer none, .int .i64 0, .int .i64 0]
def T1 (w : World) (g : Nat) : Array Value := #[.pointer (some ⟨g, 0, none⟩), undef, .pointer (some ⟨w.heap.size, 0, none⟩), .bool false, .pointer (some ⟨(w.heap.size + 1), 0, none⟩), .pointer (some ⟨g, 0, none⟩), .pointer (some ⟨g, 0, none⟩), .pointer (some ⟨g, 0, none⟩), .agg #[.pointer (some ⟨g, 0, none⟩), .int .i64 1, .int .i64 2], .pointer (some ⟨g, 0, none⟩), .pointer (some ⟨g, 0, none⟩), .pointer (some ⟨g, 1, none⟩), .agg #[.pointer (some ⟨g, 1, none⟩), .int .i64 1, .int .i64 1048576], .agg #[.pointer none, .int .i64 0, .int .i64 0], .agg #[.pointer none, .int .i64 0, .int .i64 0], .pointer (some ⟨g, 0, none⟩), .pointer (some ⟨g, 0, none⟩), .pointer (some ⟨g, 6, none⟩), .agg #[.pointer (some ⟨g, 6, none⟩), .int .i64 1, .int .i64 1000], .pointer (some ⟨g, 0, none⟩), .pointer (some ⟨g, 0, none⟩), .pointer (some ⟨g, 7, none⟩), .agg #[.pointer (some ⟨g, 7, none⟩), .int .i64 1, .int .i64 64], .pointer (some ⟨g, 0, none⟩), .pointer (some ⟨g, 0, none⟩), .pointer (some ⟨g, 8, none⟩), .agg #[.pointer (some ⟨g, 8, none⟩), .int .i64 0, .int .i64 1000], .pointer (some ⟨g, 0, none⟩), .pointer (some ⟨g, 0, none⟩), .pointer (some ⟨g, 9, none⟩), .agg #[.pointer (some ⟨g, 9, none⟩), .int .i64 1, .int .i64 1000], .agg (flds g fld0 fld0).toArray, undef, undef, undef, undef, undef, undef, undef, undef, undef, undef, undef, undef, undef, undef, undef, undef, undef, undef, undef, undef, undef, undef, undef, undef, undef, undef, undef, undef, undef, undef]
def T51 (w : World) (g : Nat) : Array Value := #[.pointer (some ⟨g, 0, none⟩), undef, .pointer (some ⟨w.heap.size, 0, none⟩), .bool false, .pointer (some ⟨(w.heap.size + 1), 0, none⟩), .pointer (some ⟨g, 0, none⟩), .pointer (some ⟨g, 0, none⟩), .pointer (some ⟨g, 0, none⟩), .agg #[.pointer (some ⟨g, 0, none⟩), .int .i64 1, .int .i64 2], .pointer (some ⟨g, 0, none⟩), .pointer (some ⟨g, 0, none⟩), .pointer (some ⟨g, 1, none⟩), .agg #[.pointer (some ⟨g, 1, none⟩), .int .i64 1, .int .i64 1048576], .agg #[.pointer none, .int .i64 0, .int .i64 0], .agg #[.pointer none, .int .i64 0, .int .i64 0], .pointer (some ⟨g, 0, none⟩), .pointer (some ⟨g, 0, none⟩), .pointer (some ⟨g, 6, none⟩), .agg #[.pointer (some ⟨g, 6, none⟩), .int .i64 1, .int .i64 1000], .pointer (some ⟨g, 0, none⟩), .pointer (some ⟨g, 0, none⟩), .pointer (some ⟨g, 7, none⟩), .agg #[.pointer (some ⟨g, 7, none⟩), .int .i64 1, .int .i64 64], .pointer (some ⟨g, 0, none⟩), .pointer (some ⟨g, 0, none⟩), .pointer (some ⟨g, 8, none⟩), .agg #[.pointer (some ⟨g, 8, none⟩), .int .i64 0, .int .i64 1000], .pointer (some ⟨g, 0, none⟩), .pointer (some ⟨g, 0, none⟩), .pointer (some ⟨g, 9, none⟩), .agg #[.pointer (some ⟨g, 9, none⟩), .int .i64 1, .int .i64 1000], .agg (flds g fld0 fld0).toArray, .pointer (some ⟨g, 0, none⟩), .pointer (some ⟨g, 0, none⟩), .pointer (some ⟨g, 0, none⟩), .int .i64 1, undef, .bool true, .bool true, .pointer (some ⟨g, 0, none⟩), .pointer (some ⟨g, 0, none⟩), .pointer (some ⟨g, 2, none⟩), .agg #[.pointer (some ⟨g, 2, none⟩), .int .i64 1, .int .i64 65536], .pointer (some ⟨g, 0, none⟩), .pointer (some ⟨g, 0, none⟩), .pointer (some ⟨g, 3, none⟩), .agg #[.pointer (some ⟨g, 3, none⟩), .int .i64 1, .int .i64 65536], .pointer (some ⟨(w.heap.size + 1), 6, none⟩), .pointer (some ⟨(w.heap.size + 1), 9, none⟩), undef, undef, undef, undef, undef, undef, undef, undef, undef, undef, undef, undef, undef]
def T52 (w : World) (g : Nat) : Array Value := #[.pointer (some ⟨g, 0, none⟩), undef, .pointer (some ⟨w.heap.size, 0, none⟩), .bool false, .pointer (some ⟨(w.heap.size + 1), 0, none⟩), .pointer (some ⟨g, 0, none⟩), .pointer (some ⟨g, 0, none⟩), .pointer (some ⟨g, 0, none⟩), .agg #[.pointer (some ⟨g, 0, none⟩), .int .i64 1, .int .i64 2], .pointer (some ⟨g, 0, none⟩), .pointer (some ⟨g, 0, none⟩), .pointer (some ⟨g, 1, none⟩), .agg #[.pointer (some ⟨g, 1, none⟩), .int .i64 1, .int .i64 1048576], .agg #[.pointer none, .int .i64 0, .int .i64 0], .agg #[.pointer none, .int .i64 0, .int .i64 0], .pointer (some ⟨g, 0, none⟩), .pointer (some ⟨g, 0, none⟩), .pointer (some ⟨g, 6, none⟩), .agg #[.pointer (some ⟨g, 6, none⟩), .int .i64 1, .int .i64 1000], .pointer (some ⟨g, 0, none⟩), .pointer (some ⟨g, 0, none⟩), .pointer (some ⟨g, 7, none⟩), .agg #[.pointer (some ⟨g, 7, none⟩), .int .i64 1, .int .i64 64], .pointer (some ⟨g, 0, none⟩), .pointer (some ⟨g, 0, none⟩), .pointer (some ⟨g, 8, none⟩), .agg #[.pointer (some ⟨g, 8, none⟩), .int .i64 0, .int .i64 1000], .pointer (some ⟨g, 0, none⟩), .pointer (some ⟨g, 0, none⟩), .pointer (some ⟨g, 9, none⟩), .agg #[.pointer (some ⟨g, 9, none⟩), .int .i64 1, .int .i64 1000], .agg (flds g fld0 fld0).toArray, .pointer (some ⟨g, 0, none⟩), .pointer (some ⟨g, 0, none⟩), .pointer (some ⟨g, 0, none⟩), .int .i64 2, undef, .bool false, .bool false, undef, undef, undef, undef, undef, undef, undef, undef, undef, undef, .bool true, .bool true, .pointer (some ⟨g, 0, none⟩), .pointer (some ⟨g, 0, none⟩), .pointer (some ⟨g, 4, none⟩), .agg #[.pointer (some ⟨g, 4, none⟩), .int .i64 1, .int .i64 1048576], .pointer (some ⟨g, 0, none⟩), .pointer (some ⟨g, 0, none⟩), .pointer (some ⟨g, 5, none⟩), .agg #[.pointer (some ⟨g, 5, none⟩), .int .i64 1, .int .i64 32], .pointer (some ⟨(w.heap.size + 1), 6, none⟩), .pointer (some ⟨(w.heap.size + 1), 9, none⟩), undef]
/-- The two blocks of fields in the making, and what stays. -/
structure Making (w : World) (c : Array Value) (u : World) : Prop where
  res : u.heap[w.heap.size]? = some (.cells Z1 126 (0, 0))
  out : u.heap[w.heap.size + 1]? = some (.cells c 126 (0, 0))
  bel : Below w.heap.size w u
theorem Making.drew {w u : World} {c : Array Value} (h : Making w c u) : Making w c u.drew := ⟨h.res, h.out, h.bel.drew⟩
theorem Making.set {w u : World} {c : Array Value} (h : Making w c u) (c' : Array Value) : Making w c' (u.setRow (w.heap.size + 1) c') :=
  ⟨(setRow_other u _ _ _ (by omega)).trans h.res, setRow_heap u _ _ _ _ _ h.out, below_setRow h.bel (by omega) _⟩
theorem Making.start (w : World) : Making w Z1 ((w.alloc (.cells Z1 126)).drew.alloc (.cells Z1 126)) :=
  ⟨(Below.heap_alloc _ _ _ (by simp)).trans (heap_alloc_new w _), by have := heap_alloc_new (w.alloc (.cells Z1 126)).drew (.cells Z1 126); simpa using this, ((Below.refl _ _).alloc (Nat.le_refl _) _).drew.alloc (by simp) _⟩
theorem sizeFields : (Try.prog.info? 126).map (·.size) = some 24 := by kernel_rfl
theorem sizeField : (Try.prog.info? 125).map (·.size) = some 3 := by kernel_rfl

set_option maxRecDepth 100000 in
set_option maxHeartbeats 4000000 in
theorem fields_1 (w : World) (g : Nat) (h0 : w.cell? ⟨g, 0, none⟩ = some (.int .i64 1)) :
    Calls Try.prog 64 #[.pointer (some ⟨g, 0, none⟩)] w (FieldsAre w (flds g (fld g 2 1 65536) (fld g 3 1 65536)) true) := by
  go_enter Try.func64, Try.ntmps64
  go_wp2
  refine wp_region_chain (T := T1 w g) [27, 28] [(w.alloc (.cells Z1 126)).drew, (w.alloc (.cells Z1 126)).drew.alloc (.cells Z1 126), ((w.alloc (.cells Z1 126)).drew.alloc (.cells Z1 126)).setRow (w.heap.size + 1) (flds g fld0 fld0).toArray] (by kernel_rfl) (by kernel_rfl) (by kernel_rfl) rfl rfl ?hval ?hwr ?hQ
  case hval =>
    repeat' (first | exact trivial | apply And.intro)
    all_goals (first | exact Or.inl (by decide) | exact Or.inr (fun w' _ => by kernel_rfl))
  case hwr =>
    refine ⟨wrote_value _ rfl (.pointer (some ⟨w.heap.size + 1, 0, none⟩)) ?_ (fun d hd => by cases hd; rfl), wrote_skip _ rfl ?_ rfl, trivial⟩
    · simp only [execOp]
      go_simp
      first | rfl | exact ⟨rfl, rfl⟩
    · exact exec_store_part 126 (.tmp 4) (.tmp 31) rfl (w.heap.size + 1) 0 _ Z1 _ 126 rfl rfl (Making.start w).out (Nat.le_of_ble_eq_true (by kernel_rfl)) sizeFields (by kernel_rfl) (by kernel_rfl)
  case hQ =>
    have hg : g < w.heap.size := World.block_lt_of_cell? w _ h0
    have hm := (Making.start w).set (flds g fld0 fld0).toArray
    obtain ⟨u, hu⟩ : ∃ u, ((w.alloc (.cells Z1 126)).drew.alloc (.cells Z1 126)).setRow (w.heap.size + 1) (flds g fld0 fld0).toArray = u := ⟨_, rfl⟩
    rw [hu] at hm ⊢
    have hk : u.cell? ⟨g, 0, none⟩ = some (.int .i64 1) := (hm.bel.cell (p := ⟨g, 0, none⟩) hg).trans h0
    have HM := Lib.hid hm
    clear h0 hu hm
    unfold T1
    go_wp2_with (first
        | (refine wpList_load_row rfl 126 (.tmp 4) rfl (w.heap.size + 1) rfl 126 _ (0, 0) _ HM.out.out Try.underlying126 rfl sizeFields ?_)
        | (refine wpList_store_row rfl 126 (.tmp 2) (.tmp 36) rfl w.heap.size _ Z1 126 rfl rfl HM.out.res (by kernel_rfl) sizeFields (by kernel_rfl) ?_))
    have h1 := HM.out.drew
    have h2 := h1.set (flds g (fld g 2 1 65536) fld0).toArray
    have h3 := h2.set (flds g (fld g 2 1 65536) (fld g 3 1 65536)).toArray
    refine wp_region_chain (T := T51 w g) [9, 11] [u.drew, u.drew.setRow (w.heap.size + 1) (flds g (fld g 2 1 65536) fld0).toArray, (u.drew.setRow (w.heap.size + 1) (flds g (fld g 2 1 65536) fld0).toArray).setRow (w.heap.size + 1) (flds g (fld g 2 1 65536) (fld g 3 1 65536)).toArray] (by kernel_rfl) (by kernel_rfl) (by kernel_rfl) rfl rfl ?hval ?hwr ?hQ
    case hval =>
      repeat' (first | exact trivial | apply And.intro)
      all_goals (first | exact Or.inl (by decide) | exact Or.inr (fun w' _ => by kernel_rfl))
    case hwr =>
      refine ⟨wrote_skip _ rfl ?_ rfl, wrote_skip _ rfl ?_ rfl, trivial⟩
      · exact exec_store_part 125 (.tmp 47) (.tmp 42) rfl (w.heap.size + 1) 6 _ _ _ 126 rfl rfl h1.out (Nat.le_of_ble_eq_true (by kernel_rfl)) sizeField (by kernel_rfl) (by kernel_rfl)
      · exact exec_store_part 125 (.tmp 48) (.tmp 46) rfl (w.heap.size + 1) 9 _ _ _ 126 rfl rfl h2.out (Nat.le_of_ble_eq_true (by kernel_rfl)) sizeField (by kernel_rfl) (by kernel_rfl)
    case hQ =>
      obtain ⟨v, hv⟩ : ∃ v, (u.drew.setRow (w.heap.size + 1) (flds g (fld g 2 1 65536) fld0).toArray).setRow (w.heap.size + 1) (flds g (fld g 2 1 65536) (fld g 3 1 65536)).toArray = v := ⟨_, rfl⟩
      rw [hv] at h3 ⊢
      have HM := Lib.hid h3
      clear h1 h2 h3 hv hk
      unfold T51
      go_wp2_with (first
        | (refine wpList_load_row rfl 126 (.tmp 4) rfl (w.heap.size + 1) rfl 126 _ (0, 0) _ HM.out.out Try.underlying126 rfl sizeFields ?_)
        | (refine wpList_store_row rfl 126 (.tmp 2) (.tmp 61) rfl w.heap.size _ Z1 126 rfl rfl HM.out.res (by kernel_rfl) sizeFields (by kernel_rfl) ?_))
      try simp only [Exit.inBlock, Exit.then]
      refine bodyPost_ret_by (v := .tuple #[.agg (flds g (fld g 2 1 65536) (fld g 3 1 65536)).toArray, .bool true]) ?_ rfl ⟨rfl, below_setRow HM.out.bel (Nat.le_refl _) _⟩
      rw [results_cell_tmp rfl]
      have hld := fun (w0 : World) (c : Array Value) h hc => run_loadVar_row (P := Try.prog) w0 w.heap.size 126 126 c (0, 0) _ h Try.underlying126 rfl hc
      have hl1 := hld _ _ (setRow_heap _ _ _ (flds g (fld g 2 1 65536) (fld g 3 1 65536)).toArray _ _ HM.out.res) sizeFields
      simp only [asAddr]
      simp [Result.andThen, hl1]

set_option maxRecDepth 100000 in
set_option maxHeartbeats 4000000 in
theorem fields_2 (w : World) (g : Nat) (h0 : w.cell? ⟨g, 0, none⟩ = some (.int .i64 2)) :
    Calls Try.prog 64 #[.pointer (some ⟨g, 0, none⟩)] w (FieldsAre w (flds g (fld g 4 1 1048576) (fld g 5 1 32)) true) := by
  go_enter Try.func64, Try.ntmps64
  go_wp2
  refine wp_region_chain (T := T1 w g) [27, 28] [(w.alloc (.cells Z1 126)).drew, (w.alloc (.cells Z1 126)).drew.alloc (.cells Z1 126), ((w.alloc (.cells Z1 126)).drew.alloc (.cells Z1 126)).setRow (w.heap.size + 1) (flds g fld0 fld0).toArray] (by kernel_rfl) (by kernel_rfl) (by kernel_rfl) rfl rfl ?hval ?hwr ?hQ
  case hval =>
    repeat' (first | exact trivial | apply And.intro)
    all_goals (first | exact Or.inl (by decide) | exact Or.inr (fun w' _ => by kernel_rfl))
  case hwr =>
    refine ⟨wrote_value _ rfl (.pointer (some ⟨w.heap.size + 1, 0, none⟩)) ?_ (fun d hd => by cases hd; rfl), wrote_skip _ rfl ?_ rfl, trivial⟩
    · simp only [execOp]
      go_simp
      first | rfl | exact ⟨rfl, rfl⟩
    · exact exec_store_part 126 (.tmp 4) (.tmp 31) rfl (w.heap.size + 1) 0 _ Z1 _ 126 rfl rfl (Making.start w).out (Nat.le_of_ble_eq_true (by kernel_rfl)) sizeFields (by kernel_rfl) (by kernel_rfl)
  case hQ =>
    have hg : g < w.heap.size := World.block_lt_of_cell? w _ h0
    have hm := (Making.start w).set (flds g fld0 fld0).toArray
    obtain ⟨u, hu⟩ : ∃ u, ((w.alloc (.cells Z1 126)).drew.alloc (.cells Z1 126)).setRow (w.heap.size + 1) (flds g fld0 fld0).toArray = u := ⟨_, rfl⟩
    rw [hu] at hm ⊢
    have hk : u.cell? ⟨g, 0, none⟩ = some (.int .i64 2) := (hm.bel.cell (p := ⟨g, 0, none⟩) hg).trans h0
    have HM := Lib.hid hm
    clear h0 hu hm
    unfold T1
    go_wp2_with (first
        | (refine wpList_load_row rfl 126 (.tmp 4) rfl (w.heap.size + 1) rfl 126 _ (0, 0) _ HM.out.out Try.underlying126 rfl sizeFields ?_)
        | (refine wpList_store_row rfl 126 (.tmp 2) (.tmp 36) rfl w.heap.size _ Z1 126 rfl rfl HM.out.res (by kernel_rfl) sizeFields (by kernel_rfl) ?_))
    have h1 := HM.out.drew
    have h2 := h1.set (flds g (fld g 4 1 1048576) fld0).toArray
    have h3 := h2.set (flds g (fld g 4 1 1048576) (fld g 5 1 32)).toArray
    refine wp_region_chain (T := T52 w g) [9, 11] [u.drew, u.drew.setRow (w.heap.size + 1) (flds g (fld g 4 1 1048576) fld0).toArray, (u.drew.setRow (w.heap.size + 1) (flds g (fld g 4 1 1048576) fld0).toArray).setRow (w.heap.size + 1) (flds g (fld g 4 1 1048576) (fld g 5 1 32)).toArray] (by kernel_rfl) (by kernel_rfl) (by kernel_rfl) rfl rfl ?hval ?hwr ?hQ
    case hval =>
      repeat' (first | exact trivial | apply And.intro)
      all_goals (first | exact Or.inl (by decide) | exact Or.inr (fun w' _ => by kernel_rfl))
    case hwr =>
      refine ⟨wrote_skip _ rfl ?_ rfl, wrote_skip _ rfl ?_ rfl, trivial⟩
      · exact exec_store_part 125 (.tmp 59) (.tmp 54) rfl (w.heap.size + 1) 6 _ _ _ 126 rfl rfl h1.out (Nat.le_of_ble_eq_true (by kernel_rfl)) sizeField (by kernel_rfl) (by kernel_rfl)
      · exact exec_store_part 125 (.tmp 60) (.tmp 58) rfl (w.heap.size + 1) 9 _ _ _ 126 rfl rfl h2.out (Nat.le_of_ble_eq_true (by kernel_rfl)) sizeField (by kernel_rfl) (by kernel_rfl)
    case hQ =>
      obtain ⟨v, hv⟩ : ∃ v, (u.drew.setRow (w.heap.size + 1) (flds g (fld g 4 1 1048576) fld0).toArray).setRow (w.heap.size + 1) (flds g (fld g 4 1 1048576) (fld g 5 1 32)).toArray = v := ⟨_, rfl⟩
      rw [hv] at h3 ⊢
      have HM := Lib.hid h3
      clear h1 h2 h3 hv hk
      unfold T52
      go_wp2_with (first
        | (refine wpList_load_row rfl 126 (.tmp 4) rfl (w.heap.size + 1) rfl 126 _ (0, 0) _ HM.out.out Try.underlying126 rfl sizeFields ?_)
        | (refine wpList_store_row rfl 126 (.tmp 2) (.tmp 61) rfl w.heap.size _ Z1 126 rfl rfl HM.out.res (by kernel_rfl) sizeFields (by kernel_rfl) ?_))
      try simp only [Exit.inBlock, Exit.then]
      refine bodyPost_ret_by (v := .tuple #[.agg (flds g (fld g 4 1 1048576) (fld g 5 1 32)).toArray, .bool true]) ?_ rfl ⟨rfl, below_setRow HM.out.bel (Nat.le_refl _) _⟩
      rw [results_cell_tmp rfl]
      have hld := fun (w0 : World) (c : Array Value) h hc => run_loadVar_row (P := Try.prog) w0 w.heap.size 126 126 c (0, 0) _ h Try.underlying126 rfl hc
      have hl1 := hld _ _ (setRow_heap _ _ _ (flds g (fld g 4 1 1048576) (fld g 5 1 32)).toArray _ _ HM.out.res) sizeFields
      simp only [asAddr]
      simp [Result.andThen, hl1]

set_option maxRecDepth 100000 in
set_option maxHeartbeats 4000000 in
theorem fields_x (w : World) (g : Nat) (k : Int) (h0 : w.cell? ⟨g, 0, none⟩ = some (.int .i64 k)) (h1 : (k == 1) = false) (h2 : (k == 2) = false) (h3 : k ≠ 1) (h4 : k ≠ 2) :
    Calls Try.prog 64 #[.pointer (some ⟨g, 0, none⟩)] w (FieldsAre w (flds g fld0 fld0) false) := by
  go_enter Try.func64, Try.ntmps64
  go_wp2
  refine wp_region_chain (T := T1 w g) [27, 28] [(w.alloc (.cells Z1 126)).drew, (w.alloc (.cells Z1 126)).drew.alloc (.cells Z1 126), ((w.alloc (.cells Z1 126)).drew.alloc (.cells Z1 126)).setRow (w.heap.size + 1) (flds g fld0 fld0).toArray] (by kernel_rfl) (by kernel_rfl) (by kernel_rfl) rfl rfl ?hval ?hwr ?hQ
  case hval =>
    repeat' (first | exact trivial | apply And.intro)
    all_goals (first | exact Or.inl (by decide) | exact Or.inr (fun w' _ => by kernel_rfl))
  case hwr =>
    refine ⟨wrote_value _ rfl (.pointer (some ⟨w.heap.size + 1, 0, none⟩)) ?_ (fun d hd => by cases hd; rfl), wrote_skip _ rfl ?_ rfl, trivial⟩
    · simp only [execOp]
      go_simp
      first | rfl | exact ⟨rfl, rfl⟩
    · exact exec_store_part 126 (.tmp 4) (.tmp 31) rfl (w.heap.size + 1) 0 _ Z1 _ 126 rfl rfl (Making.start w).out (Nat.le_of_ble_eq_true (by kernel_rfl)) sizeFields (by kernel_rfl) (by kernel_rfl)
  case hQ =>
    have hg : g < w.heap.size := World.block_lt_of_cell? w _ h0
    have hm := (Making.start w).set (flds g fld0 fld0).toArray
    obtain ⟨u, hu⟩ : ∃ u, ((w.alloc (.cells Z1 126)).drew.alloc (.cells Z1 126)).setRow (w.heap.size + 1) (flds g fld0 fld0).toArray = u := ⟨_, rfl⟩
    rw [hu] at hm ⊢
    have hk : u.cell? ⟨g, 0, none⟩ = some (.int .i64 k) := (hm.bel.cell (p := ⟨g, 0, none⟩) hg).trans h0
    have HM := Lib.hid hm
    clear h0 hu hm
    unfold T1
    go_wp2_with (first
        | (refine wpList_load_row rfl 126 (.tmp 4) rfl (w.heap.size + 1) rfl 126 _ (0, 0) _ HM.out.out Try.underlying126 rfl sizeFields ?_)
        | (refine wpList_store_row rfl 126 (.tmp 2) (.tmp 36) rfl w.heap.size _ Z1 126 rfl rfl HM.out.res (by kernel_rfl) sizeFields (by kernel_rfl) ?_))
    try simp only [Exit.inBlock, Exit.then]
    refine bodyPost_ret_by (v := .tuple #[.agg (flds g fld0 fld0).toArray, .bool false]) ?_ rfl ⟨rfl, below_setRow HM.out.bel (Nat.le_refl _) _⟩
    rw [results_cell_tmp rfl]
    have hld := fun (w0 : World) (c : Array Value) h hc => run_loadVar_row (P := Try.prog) w0 w.heap.size 126 126 c (0, 0) _ h Try.underlying126 rfl hc
    have hl1 := hld _ _ (setRow_heap _ _ _ (flds g fld0 fld0).toArray _ _ HM.out.res) sizeFields
    simp only [asAddr]
    simp [Result.andThen, hl1]
end Go.Proofs.Ytipiohkpdkandaa
