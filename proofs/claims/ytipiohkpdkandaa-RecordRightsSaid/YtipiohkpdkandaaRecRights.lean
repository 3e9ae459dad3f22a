/-
  The walk of the law RecordRights. Conditions: none.
-/
import Derived.Test.YtipiohkpdkandaaRefR
import Derived.Test.YtipiohkpdkandaaRecW
import Derived.Test.YtipiohkpdkandaaRecArg
namespace Go.Proofs.Ytipiohkpdkandaa
set_option linter.unusedVariables false
set_option linter.unusedSimpArgs false
open Go.RowKit

set_option maxRecDepth 100000 in
set_option maxHeartbeats 4000000 in
theorem recordRights_walk (W : World) (P : Pol) (r : Rec) (hm : r.key.size ≤ maxLen) :
    Calls Try.prog 11 #[.agg P.cells.toArray, r.val] W fun e W' => e = .returned (.bool true) ∧ Below W.heap.size W W' := by
  obtain ⟨W2, hW2⟩ : ∃ W2, (W.alloc (.cells P.cells.toArray 23)).alloc (.cells #[.int .i64 r.tick, .string r.key, .int .i64 r.cost, .int .i64 r.verdict] 34) = W2 := ⟨_, rfl⟩
  have hb2 : Below W.heap.size W W2 := by rw [← hW2]; exact ((Below.refl _ _).alloc (Nat.le_refl _) _).alloc (by simp) _
  have hz2 : W2.heap.size = W.heap.size + 1 + 1 := by rw [← hW2, alloc_size, alloc_size]
  have hx1 : W2.heap[W.heap.size]? = some (.cells P.cells.toArray 23 (0, 0)) := by rw [← hW2, Below.heap_alloc _ _ _ (by simp)]; exact heap_alloc_new W _
  have hx2 : W2.heap[W.heap.size + 1]? = some (.cells #[.int .i64 r.tick, .string r.key, .int .i64 r.cost, .int .i64 r.verdict] 34 (0, 0)) := by rw [← hW2]; exact alloc_top (by rw [alloc_size])
  have HX := Lib.hid (And.intro hb2 (And.intro hz2 (And.intro hx1 hx2)))
  have aw := awake6_any W2
  have hr1 := fun w => recRight_any w r hm
  have hr2 := fun w => refRec_any w r hm
  unfold RecRight at hr1 hr2
  obtain ⟨er, her⟩ : ∃ er, recErr r = er := ⟨_, rfl⟩
  rw [her] at hr1 hr2
  clear hb2 hz2 hx1 hx2 her
  have hpsz : (Try.prog.info? 23).map (·.size) = some 10 := by kernel_rfl
  have HZ := Lib.hid hpsz
  clear hpsz
  unfold Rec.val at hr1 hr2 ⊢
  by_cases hok : P.ok
  · have hn1 : ∀ w, Calls Try.prog 18 #[.agg P.cells.toArray] w fun e w' => ∃ p, e = .returned (.tuple #[.pointer (some ⟨p, 0, none⟩), .int .i64 0]) ∧ Below w.heap.size w w' := fun w =>
      (recNew_yes w P hok).mono fun e w' ⟨p, he, S, _, _, hb⟩ => ⟨p, he, hb⟩
    have hn2 : ∀ w, Calls Try.prog 36 #[.agg P.cells.toArray] w fun e w' => ∃ p, e = .returned (.tuple #[.pointer (some ⟨p, 0, none⟩), .int .i64 0]) ∧ Below w.heap.size w w' := fun w =>
      (refCoder_yes w P hok).mono fun e w' ⟨p, he, S, _, _, hb⟩ => ⟨p, he, hb⟩
    clear hok
    go_enter Try.func11, Try.ntmps11
    go_upto_region 1 with fail
    clear hW2
    go_wp2_with fail
    refine aw.mono ?_
    rintro e w1 ⟨rfl, b1⟩
    have hl1 := (b1.block W.heap.size (by have := HX.out.2.1; omega)).trans HX.out.2.2.1
    have HL := Lib.hid (And.intro hl1 b1)
    clear aw b1 hl1
    go_wp2_with ((with_reducible refine at_list ?_); refine wpList_load_row rfl 23 (.tmp 2) rfl W.heap.size rfl 23 P.cells.toArray (0, 0) _ HL.out.1 Try.underlying23 rfl HZ.out ?_)
    refine (hn1 _).mono ?_
    rintro e w2 ⟨p, rfl, b2⟩
    have hl2 := (b2.block W.heap.size ((Array.getElem?_eq_some_iff.1 HL.out.1).1)).trans HL.out.1
    have HL2 := Lib.hid (And.intro hl2 (HL.out.2.trans (b2.mono HL.out.2.size)))
    clear hn1 b2 hl2
    go_wp2_with ((with_reducible refine at_list ?_); refine wpList_load_row rfl 23 (.tmp 2) rfl W.heap.size rfl 23 P.cells.toArray (0, 0) _ HL2.out.1 Try.underlying23 rfl HZ.out ?_)
    refine (hn2 _).mono ?_
    rintro e w3 ⟨q, rfl, b3⟩
    have hb3 := HL2.out.2.trans (b3.mono HL2.out.2.size)
    have x2 := (hb3.block (W.heap.size + 1) (by have := HX.out.2.1; omega)).trans HX.out.2.2.2
    have y1 : w3.cell? ⟨W.heap.size + 1, 0, none⟩ = some (.int .i64 r.tick) := by simp [World.cell?, x2]
    have y2 : w3.cell? ⟨W.heap.size + 1, 1, none⟩ = some (.string r.key) := by simp [World.cell?, x2]
    have y3 : w3.cell? ⟨W.heap.size + 1, 2, none⟩ = some (.int .i64 r.cost) := by simp [World.cell?, x2]
    have y4 : w3.cell? ⟨W.heap.size + 1, 3, none⟩ = some (.int .i64 r.verdict) := by simp [World.cell?, x2]
    have HB := Lib.hid hb3
    clear hn2 b3 hb3 x2
    go_wp2_with fail
    refine (hr1 _).mono ?_
    rintro e w4 ⟨rfl, b4⟩
    have hb4 := HB.out.trans (b4.mono HB.out.size)
    have x2 := (hb4.block (W.heap.size + 1) (by have := HX.out.2.1; omega)).trans HX.out.2.2.2
    clear y1 y2 y3 y4
    have y1 : w4.cell? ⟨W.heap.size + 1, 0, none⟩ = some (.int .i64 r.tick) := by simp [World.cell?, x2]
    have y2 : w4.cell? ⟨W.heap.size + 1, 1, none⟩ = some (.string r.key) := by simp [World.cell?, x2]
    have y3 : w4.cell? ⟨W.heap.size + 1, 2, none⟩ = some (.int .i64 r.cost) := by simp [World.cell?, x2]
    have y4 : w4.cell? ⟨W.heap.size + 1, 3, none⟩ = some (.int .i64 r.verdict) := by simp [World.cell?, x2]
    have HB4 := Lib.hid hb4
    clear hr1 b4 hb4 x2
    go_wp2_with fail
    refine (hr2 _).mono ?_
    rintro e w5 ⟨rfl, b5⟩
    have HB5 := Lib.hid b5
    clear hr2 b5 y1 y2 y3 y4
    go_wp2
    go_ret
    exact ⟨by simp, HX.out.1.trans ((HB4.out.trans (HB5.out.mono HB4.out.size)).mono (by have := HX.out.2.1; omega))⟩
  · have hn1 := fun w => recNew_no w P hok
    have hn2 := fun w => refCoder_no w P hok
    clear hok
    go_enter Try.func11, Try.ntmps11
    go_upto_region 1 with fail
    clear hW2
    go_wp2_with fail
    refine aw.mono ?_
    rintro e w1 ⟨rfl, b1⟩
    have hl1 := (b1.block W.heap.size (by have := HX.out.2.1; omega)).trans HX.out.2.2.1
    have HL := Lib.hid (And.intro hl1 b1)
    clear aw b1 hl1
    go_wp2_with ((with_reducible refine at_list ?_); refine wpList_load_row rfl 23 (.tmp 2) rfl W.heap.size rfl 23 P.cells.toArray (0, 0) _ HL.out.1 Try.underlying23 rfl HZ.out ?_)
    refine (hn1 _).mono ?_
    rintro e w2 ⟨rfl, b2⟩
    have hl2 := (b2.block W.heap.size ((Array.getElem?_eq_some_iff.1 HL.out.1).1)).trans HL.out.1
    have HL2 := Lib.hid (And.intro hl2 (HL.out.2.trans (b2.mono HL.out.2.size)))
    clear hn1 b2 hl2
    go_wp2_with ((with_reducible refine at_list ?_); refine wpList_load_row rfl 23 (.tmp 2) rfl W.heap.size rfl 23 P.cells.toArray (0, 0) _ HL2.out.1 Try.underlying23 rfl HZ.out ?_)
    refine (hn2 _).mono ?_
    rintro e w3 ⟨rfl, b3⟩
    have hb3 := HL2.out.2.trans (b3.mono HL2.out.2.size)
    have x2 := (hb3.block (W.heap.size + 1) (by have := HX.out.2.1; omega)).trans HX.out.2.2.2
    have y1 : w3.cell? ⟨W.heap.size + 1, 0, none⟩ = some (.int .i64 r.tick) := by simp [World.cell?, x2]
    have y2 : w3.cell? ⟨W.heap.size + 1, 1, none⟩ = some (.string r.key) := by simp [World.cell?, x2]
    have y3 : w3.cell? ⟨W.heap.size + 1, 2, none⟩ = some (.int .i64 r.cost) := by simp [World.cell?, x2]
    have y4 : w3.cell? ⟨W.heap.size + 1, 3, none⟩ = some (.int .i64 r.verdict) := by simp [World.cell?, x2]
    have HB := Lib.hid hb3
    clear hn2 b3 hb3 x2
    go_wp2_with fail
    refine (hr1 _).mono ?_
    rintro e w4 ⟨rfl, b4⟩
    have hb4 := HB.out.trans (b4.mono HB.out.size)
    have x2 := (hb4.block (W.heap.size + 1) (by have := HX.out.2.1; omega)).trans HX.out.2.2.2
    clear y1 y2 y3 y4
    have y1 : w4.cell? ⟨W.heap.size + 1, 0, none⟩ = some (.int .i64 r.tick) := by simp [World.cell?, x2]
    have y2 : w4.cell? ⟨W.heap.size + 1, 1, none⟩ = some (.string r.key) := by simp [World.cell?, x2]
    have y3 : w4.cell? ⟨W.heap.size + 1, 2, none⟩ = some (.int .i64 r.cost) := by simp [World.cell?, x2]
    have y4 : w4.cell? ⟨W.heap.size + 1, 3, none⟩ = some (.int .i64 r.verdict) := by simp [World.cell?, x2]
    have HB4 := Lib.hid hb4
    clear hr1 b4 hb4 x2
    go_wp2_with fail
    refine (hr2 _).mono ?_
    rintro e w5 ⟨rfl, b5⟩
    have HB5 := Lib.hid b5
    clear hr2 b5 y1 y2 y3 y4
    go_wp2
    go_ret
    exact ⟨by simp, HX.out.1.trans ((HB4.out.trans (HB5.out.mono HB4.out.size)).mono (by have := HX.out.2.1; omega))⟩
end Go.Proofs.Ytipiohkpdkandaa
