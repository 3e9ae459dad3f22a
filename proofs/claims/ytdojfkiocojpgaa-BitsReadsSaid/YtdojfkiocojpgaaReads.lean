/-
  The walks of 'lent' and 'back', and of the law BitsReads. Conditions: none.
-/
import Derived.Test.YtdojfkiocojpgaaForm
namespace Go.Proofs.Ytdojfkiocojpgaa
set_option linter.unusedVariables false
set_option linter.unusedSimpArgs false
open Go.RowKit

/-- What lent leaves: the bytes in a list of its own, three marks behind them. -/
def LentPost (w : World) (l : List Int) (n : Nat) (e : Ending) (w' : World) : Prop :=
  ∃ g, e = .returned (.slice (some ⟨g, 0, none⟩) (n + 3) (n + 3)) ∧ w.heap.size ≤ g ∧ Row w' 5 (some ⟨g, 0, none⟩) (n + 3) (n + 3) (nums .u8 (l ++ [201, 201, 201])) ∧ Below w.heap.size w w'

theorem marks_set (l : List Int) (j : Nat) (hj : j < 3) : (nums .u8 (l ++ (List.replicate j 201 ++ List.replicate (3 - j) 0))).set (l.length + j) (.int .u8 201) = nums .u8 (l ++ (List.replicate (j + 1) 201 ++ List.replicate (3 - (j + 1)) 0)) := by
  rw [nums_append, nums_append, List.set_append_right _ _ (by rw [nums_length]; omega), nums_length]
  congr 1
  rw [show l.length + j - l.length = j by omega]
  have : j = 0 ∨ j = 1 ∨ j = 2 := by omega
  rcases this with rfl | rfl | rfl <;> simp [nums, List.replicate]

set_option maxRecDepth 100000 in
set_option maxHeartbeats 2000000 in
theorem lent_any (A : Option Addr) (n c : Nat) (l : List Int) (w : World) (r : IntsArg .u8 1 w A n c l) :
    Calls Try.prog 17 #[.slice A n c] w (LentPost w l n) := by
  have hl := r.len
  have hroom := r.room
  have R := r.rd
  clear r
  have hmk : ∀ W : World, (Instr.makeSlice 23 (.int .i64 ((n : Int) + 3)) (.int .i64 ((n : Int) + 3))).run Try.prog W = .ok (.slice (some ⟨W.heap.size, 0, none⟩) (n + 3) (n + 3)) (W.alloc (.cells (madeCells #[.int .u8 0] (n + 3)) 5)) := fun W => by
    have := run_make_row' (P := Try.prog) 23 5 (.int .u8 0) 1 Try.underlying23 infoByte rfl .i64 .i64 (n + 3) (by omega) (by omega) W
    rwa [show ((n + 3 : Nat) : Int) = (n : Int) + 3 by omega] at this
  have hszb : (Try.prog.info? 5).map (·.size) = some 1 := by kernel_rfl
  have hR0 : Row (w.alloc (.cells (madeCells #[.int .u8 0] (n + 3)) 5)) 5 (some ⟨w.heap.size, 0, none⟩) (n + 3) (n + 3) (nums .u8 (List.replicate (n + 3) 0)) := by
    have hs : (madeCells #[Value.int .u8 0] (n + 3)).size = n + 3 := by simp [size_madeCells]
    have := Row.made (w := w) (e := 5) (madeCells #[.int .u8 0] (n + 3)) (n + 3) (nums .u8 (List.replicate (n + 3) 0)) (by omega) (by simp only [maxLen]; omega) (by rw [toList_madeCells_one]; simp [nums])
    rwa [hs] at this
  go_enter Try.func17, Try.ntmps17
  go_wp2_with (with_reducible refine row_copy rfl _ _ 23 23 rfl 5 Try.underlying23 hszb (some ⟨w.heap.size, 0, none⟩) A (n + 3) (n + 3) n c rfl rfl w.heap.size 0 (n + 3) (n + 3) 5 (nums .u8 (List.replicate (n + 3) 0)) (nums .u8 l) hR0 ?_ (nums_oneCell _ _) n ?_ (by omega) (fun _ => rfl) ?_)
  case refine_1 => exact R.below ((Below.refl _ _).alloc (Nat.le_refl _) _) (Nat.le_refl _)
  case refine_2 => exact (Nat.min_eq_left (show n ≤ n + 3 by omega)).symm
  intro w1 h1 h2
  have hsp : splice (nums .u8 (List.replicate (n + 3) 0)) 0 (List.take n (nums .u8 l)) = nums .u8 (l ++ (List.replicate 0 201 ++ List.replicate (3 - 0) 0)) := by
    rw [List.take_of_length_le (by rw [nums_length]; omega)]
    unfold splice
    rw [nums_length, nums_append]
    simp [nums, hl]
  rw [hsp] at h1
  have hb : Below w.heap.size w w1 := ((Below.refl _ _).alloc (Nat.le_refl _) _).trans (h2.below (by simp) (fun k _ hk => by omega))
  clear h2 hmk hR0 hsp
  go_wp2
  go_loopg [4] (3 : Nat) (fun gk v4 wr => ∃ j : Nat, v4 = .int .i64 ((n : Int) + j) ∧ gk + j = 3 ∧ Row wr 5 (some ⟨w.heap.size, 0, none⟩) (n + 3) (n + 3) (nums .u8 (l ++ (List.replicate j 201 ++ List.replicate (3 - j) 0))) ∧ Below w.heap.size w wr)
  case atStart => exact ⟨0, by simp, rfl, h1, hb⟩
  case round =>
    clear h1 hb
    obtain ⟨j, rfl, hj, hrow, hb⟩ := hrel
    by_cases h3 : j = 3
    · have h30 : (3 : Int) ≤ j := by omega
      have hj3 : 3 ≤ j := by omega
      have hrow' : Row wr 5 (some ⟨w.heap.size, 0, none⟩) (n + 3) (n + 3) (nums .u8 (l ++ [201, 201, 201])) := by subst h3; exact hrow
      clear h3 hrow
      go_wp2
      go_ret
      exact ⟨_, rfl, Nat.le_refl _, hrow', hb⟩
    · have h30 : (j : Int) < 3 := by omega
      obtain ⟨u, hu⟩ : ∃ u, (nums .u8 (l ++ (List.replicate j 201 ++ List.replicate (3 - j) 0)))[n + j]? = some u := ⟨_, List.getElem?_eq_getElem (by simp [nums]; omega)⟩
      have hc := hrow.cell hu
      have hf := hrow.free (n + j)
      have hst := hrow.store (n + j) (.int .u8 201)
      rw [← hl, marks_set l j (by omega), hl] at hst
      have hb2 : Below w.heap.size w (wr.setCell ⟨w.heap.size, n + j, none⟩ (.int .u8 201)) := hb.setCell (Nat.le_refl _) _
      have HH := Lib.hid (And.intro hst hb2)
      have hj2 : ((n : Int) + j).toNat = n + j := by omega
      clear hrow hst hb2 hu h3 hb
      go_wp2
      go_roundg (2 - j)
      case measure => omega
      case rel => exact ⟨j + 1, by go_num, by omega, HH.out.1, HH.out.2⟩

set_option maxRecDepth 100000 in
set_option maxHeartbeats 2000000 in
theorem back_any (A : Option Addr) (n c : Nat) (l : List Int) (g : Nat) (w : World) (r : Rd w A n (nums .u8 l)) (hn : n ≤ 140737488351232) (R : Row w 5 (some ⟨g, 0, none⟩) (n + 3) (n + 3) (nums .u8 (l ++ [201, 201, 201]))) :
    Calls Try.prog 20 #[.slice (some ⟨g, 0, none⟩) (n + 3) (n + 3), .slice A n c] w fun e w' => e = .returned (.bool true) ∧ w = w' := by
  have hl : l.length = n := by have := r.len; rwa [nums_length] at this
  go_enter Try.func20, Try.ntmps20
  go_wp2
  go_loopg [5] (n + 3) (fun gk v5 wr => ∃ i : Nat, v5 = .int .i64 i ∧ gk + i = n + 3 ∧ w = wr)
  case atStart => exact ⟨0, rfl, rfl, rfl⟩
  case round =>
    obtain ⟨i, rfl, hi, rfl⟩ := hrel
    by_cases h1 : i < n
    · obtain ⟨x, hx⟩ : ∃ x, l[i]? = some x := ⟨_, List.getElem?_eq_getElem (by omega)⟩
      obtain ⟨ad, rfl, hc⟩ := r.at (i := i) (u := .int .u8 x) (by rw [nums_get, hx]; rfl)
      have hc2 := R.cell (i := i) (u := .int .u8 x) (by rw [nums_get, List.getElem?_append_left (by omega), hx]; rfl)
      clear hx R r
      go_wp2
      go_roundg (n + 2 - i)
      case measure => omega
      case rel => exact ⟨i + 1, by go_num, by omega, rfl⟩
    · by_cases h2 : i < n + 3
      · have hc2 := R.cell (i := i) (u := .int .u8 201) (by
          rw [nums_get, List.getElem?_append_right (by omega), hl]
          have : i - n = 0 ∨ i - n = 1 ∨ i - n = 2 := by omega
          rcases this with h | h | h <;> rw [h] <;> rfl)
        clear R r
        go_wp2
        go_roundg (n + 2 - i)
        case measure => omega
        case rel => exact ⟨i + 1, by go_num, by omega, rfl⟩
      · clear R r
        go_wp2
        go_ret
        exact ⟨rfl, rfl⟩

set_option maxRecDepth 100000 in
set_option maxHeartbeats 4000000 in
theorem bitsReads_walk (W : World) (A : Option Addr) (n c : Nat) (l : List Int) (r : IntsArg .u8 1 W A n c l) (a : Int) (_w : (Lit.int .i64 a).wf = true) :
    Calls Try.prog 4 #[.slice A n c, .int .i64 a] W fun e W' => e = .returned (.bool true) ∧ Below W.heap.size W W' := by
  have hl := r.len
  have hroom := r.room
  have aw := awake_any W
  have hB := bytes_arg r
  have r' := Lib.hid r
  have hlent : ∀ w, Below W.heap.size W w → Calls Try.prog 17 #[.slice A n c] w (LentPost w l n) := fun w hb =>
    lent_any A n c l w ⟨r.rd.below hb (Nat.le_refl _), r.wf, r.room, r.cap, fun g hg => (r.lt g hg).imp (fun h => Nat.lt_of_lt_of_le h hb.size) id⟩
  clear r
  obtain ⟨x, y, z, hx, hy, hz⟩ : ∃ x y z, (readF l a).1 = x ∧ (readF l a).2.1 = y ∧ (readF l a).2.2 = z := ⟨_, _, _, rfl, rfl, rfl⟩
  have hrd : ∀ A' n' c' w, Rd w A' n' (nums .u8 l) → n' ≤ 140737488355328 → Calls Try.prog 18 #[.slice A' n' c', .int .i64 a] w fun e w' => e = .returned (.tuple #[.int .i64 x, .int .i64 y, .int .i64 z]) ∧ w = w' := by
    intro A' n' c' w h1 h2
    have := read_any A' n' c' l a w h1 hB h2
    rwa [hx, hy, hz] at this
  have href : ∀ A' n' c' w, Rd w A' n' (nums .u8 l) → n' ≤ 140737488355328 → Calls Try.prog 19 #[.slice A' n' c', .int .i64 a] w fun e w' => e = .returned (.tuple #[.int .i64 x, .int .i64 y, .int .i64 z]) ∧ w = w' := by
    intro A' n' c' w h1 h2
    have := refRead_any A' n' c' l a w h1 hB h2
    rwa [hx, hy, hz] at this
  clear hx hy hz
  go_enter Try.func4, Try.ntmps4
  go_wp2_with fail
  refine aw.mono ?_
  rintro e w1 ⟨rfl, hb⟩
  clear aw
  go_wp2_with fail
  refine (hlent _ hb).mono ?_
  rintro e w2 ⟨g, rfl, h1, h2, h3⟩
  have hb2 : Below W.heap.size W w2 := hb.trans (h3.mono hb.size)
  have hin : Rd w2 (some ⟨g, 0, none⟩) n (nums .u8 l) := by
    have := h2.rd.take (m := n) (by omega)
    rwa [nums_append, List.take_append_of_le_length (by rw [nums_length]; omega), List.take_of_length_le (by rw [nums_length]; omega)] at this
  have hbk := back_any A n c l g w2 (r'.out.rd.below hb2 (Nat.le_refl _)) (by omega) h2
  have hrf := href A n c w2 (r'.out.rd.below hb2 (Nat.le_refl _)) (by omega)
  have hr1 := hrd (some ⟨g, 0, none⟩) n (n + 3) w2 hin (by omega)
  clear h3 hb h2 h1 hlent hrd href hin r'
  go_wp2_with fail
  refine hr1.mono ?_
  rintro e w3 ⟨rfl, rfl⟩
  go_wp2_with fail
  refine hr1.mono ?_
  rintro e w3 ⟨rfl, rfl⟩
  go_wp2_with fail
  refine hrf.mono ?_
  rintro e w3 ⟨rfl, rfl⟩
  go_wp2_with fail
  refine hbk.mono ?_
  rintro e w3 ⟨rfl, rfl⟩
  clear hr1 hrf hbk
  go_wp2
  go_ret
  exact ⟨by simp, hb2⟩
end Go.Proofs.Ytdojfkiocojpgaa
