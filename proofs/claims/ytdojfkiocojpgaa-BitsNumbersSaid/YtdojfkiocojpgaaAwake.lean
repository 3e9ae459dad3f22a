/-
  The laws' own first look at the document's examples: it answers true, and leaves what was there. Conditions: none.
-/
import Derived.Test.YtdojfkiocojpgaaSize
namespace Go.Proofs.Ytdojfkiocojpgaa
set_option linter.unusedVariables false
set_option linter.unusedSimpArgs false
open Go.RowKit

theorem digs300 : digs 300 = [172, 2] := by rw [digs_hi (by decide), digs_lo (by decide)]; rfl
theorem bytes_of {l : List Int} (h : l.all (fun x => decide (0 ≤ x ∧ x ≤ 255)) = true) : Bytes l := fun x hx => of_decide_eq_true (List.all_eq_true.1 h x hx)

theorem number300 (w : World) : Calls Try.prog 12 #[.int .i64 300] w fun e w' => ∃ g c, e = .returned (.tuple #[.slice (some ⟨g, 0, none⟩) 2 c, .int .i64 0]) ∧ w.heap.size ≤ g ∧ g < w'.heap.size ∧ w'.cell? ⟨g, 0, none⟩ = some (.int .u8 172) ∧ w'.cell? ⟨g, 1, none⟩ = some (.int .u8 2) ∧ Below w.heap.size w w' := by
  refine (number_yes 300 w (by decide)).mono ?_
  rintro e w' ⟨A, c, rfl, h2, h3, h4⟩
  rw [digs300] at *
  rcases h2.form with ⟨_, h, _⟩ | ⟨g, cur, rfl, _⟩
  · cases h
  · exact ⟨g, c, rfl, h3 g rfl, h2.lt rfl, h2.cell (i := 0) rfl, h2.cell (i := 1) rfl, h4⟩

theorem read3 (w : World) : Calls Try.prog 18 #[.slice (some ⟨w.heap.size, 0, none⟩) 3 3, .int .i64 0] (w.alloc (.cells #[.int .u8 172, .int .u8 2, .int .u8 9] 5)) fun e w' => e = .returned (.tuple #[.int .i64 300, .int .i64 2, .int .i64 0]) ∧ w.alloc (.cells #[.int .u8 172, .int .u8 2, .int .u8 9] 5) = w' :=
  read_any _ _ _ [172, 2, 9] 0 _ (Row.made (w := w) (e := 5) #[.int .u8 172, .int .u8 2, .int .u8 9] 3 (nums .u8 [172, 2, 9]) (by decide) (by simp [maxLen]) rfl).rd (bytes_of rfl) (by omega)
theorem read2 {w : World} {g : Nat} (hg : w.heap.size = g) : Calls Try.prog 18 #[.slice (some ⟨g, 0, none⟩) 2 2, .int .i64 0] (w.alloc (.cells #[.int .u8 128, .int .u8 0] 5)) fun e w' => e = .returned (.tuple #[.int .i64 0, .int .i64 0, .int .i64 11]) ∧ w.alloc (.cells #[.int .u8 128, .int .u8 0] 5) = w' :=
  hg ▸ read_any _ _ _ [128, 0] 0 _ (Row.made (w := w) (e := 5) #[.int .u8 128, .int .u8 0] 2 (nums .u8 [128, 0]) (by decide) (by simp [maxLen]) rfl).rd (bytes_of rfl) (by omega)
theorem size300 (w : World) : Calls Try.prog 14 #[.int .i64 300] w fun e w' => e = .returned (.int .i64 2) ∧ w = w' := by
  have h := size_any 300 w
  have e : sizeF 300 = 2 := by unfold sizeF; rw [if_pos (by decide), show (300 : Int).toNat = 300 by rfl, digs300]; rfl
  rwa [e] at h

theorem zig1 (w : World) : Calls Try.prog 21 #[.int .i64 (-1)] w fun e w' => e = .returned (.tuple #[.int .i64 1, .int .i64 0]) ∧ w = w' := zig_any (-1) w
theorem zag3 (w : World) : Calls Try.prog 22 #[.int .i64 3] w fun e w' => e = .returned (.tuple #[.int .i64 (-2), .int .i64 0]) ∧ w = w' := zag_any 3 w
theorem number1 (w : World) : Calls Try.prog 12 #[.int .i64 (-1)] w fun e w' => e = .returned (.tuple #[.slice none 0 0, .int .i64 1]) ∧ w = w' := number_no (-1) w (by omega)

theorem cell_two {w : World} {g i : Nat} {v : Value} (h : w.cell? ⟨g, i, none⟩ = some v) (o o' : Obj) : ((w.alloc o).alloc o').cell? ⟨g, i, none⟩ = some v := by
  have hl := World.block_lt_of_cell? w _ h
  rw [World.cell?_of_block (w := w.alloc o) (Below.heap_alloc _ _ _ (by simp; simp at hl; omega)), World.cell?_of_block (w := w) (Below.heap_alloc _ _ _ hl), h]

set_option maxRecDepth 100000 in
set_option maxHeartbeats 2000000 in
theorem awake_any (w : World) : Calls Try.prog 11 #[] w fun e w' => e = .returned (.bool true) ∧ Below w.heap.size w w' := by
  go_enter Try.func11, Try.ntmps11
  go_wp2_with fail
  refine (number300 w).mono ?_
  rintro e w1 ⟨g, c, rfl, h1, h2, h3, h4, h5⟩
  have hc0 := cell_two h3
  have hc1 := cell_two h4
  clear h3 h4
  go_wp2_with fail
  refine (read3 w1).mono ?_
  rintro e w' ⟨rfl, rfl⟩
  go_wp2_with fail
  refine (zig1 _).mono ?_
  rintro e w' ⟨rfl, rfl⟩
  go_wp2_with fail
  refine (zag3 _).mono ?_
  rintro e w' ⟨rfl, rfl⟩
  go_wp2_with fail
  refine (read2 (by simp)).mono ?_
  rintro e w' ⟨rfl, rfl⟩
  go_wp2_with fail
  refine (number1 _).mono ?_
  rintro e w' ⟨rfl, rfl⟩
  go_wp2_with fail
  refine (size300 _).mono ?_
  rintro e w' ⟨rfl, rfl⟩
  go_wp2_with fail
  go_ret
  exact ⟨rfl, (h5.alloc h5.size _).alloc (by have := h5.size; simp; omega) _⟩
end Go.Proofs.Ytdojfkiocojpgaa
