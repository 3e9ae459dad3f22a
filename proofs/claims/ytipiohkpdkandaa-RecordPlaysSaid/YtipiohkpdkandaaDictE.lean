/-
  The document's examples (awake of chapter 05): walk. Conditions: none.
-/
import Derived.Test.YtipiohkpdkandaaDictL
namespace Go.Proofs.Ytipiohkpdkandaa
set_option linter.unusedVariables false
set_option linter.unusedSimpArgs false
open Go.RowKit

theorem useG_no {d : DD} {k : ByteArray} (hk : ¬ keyOk k) : useG d k = (d, 0, false, 61) := by rw [useG, if_neg hk]
theorem useG_had {d : DD} {k : ByteArray} (hk : keyOk k) (hm : k ∈ d.keys) : useG d k = (touchF d (posK d.keys k), posK d.keys k, true, 0) := by
  rw [useG, if_pos hk]; unfold useF; rw [if_pos hm]
theorem useG_new {d : DD} {k : ByteArray} (hk : keyOk k) (hm : k ∉ d.keys) (hr : d.keys.length < d.room) : useG d k = (⟨d.room, d.keys ++ [k], d.keys.length :: d.order⟩, d.keys.length, false, 0) := by
  rw [useG, if_pos hk]; unfold useF; rw [if_neg hm, if_pos hr]
theorem useG_full {d : DD} {k : ByteArray} (hk : keyOk k) (hm : k ∉ d.keys) (hr : ¬ d.keys.length < d.room) : useG d k = (⟨d.room, d.keys.set (oldest d) k, front (oldest d) d.order⟩, oldest d, false, 0) := by
  rw [useG, if_pos hk]; unfold useF; rw [if_neg hm, if_neg hr]

theorem awake1 : useG ⟨2, [], []⟩ ⟨#[97]⟩ = (⟨2, [⟨#[97]⟩], [0]⟩, 0, false, 0) := by rw [useG_new (by decide) (by simp) (by decide)]; rfl
theorem awake2 : useG ⟨2, [⟨#[97]⟩], [0]⟩ ⟨#[98]⟩ = (⟨2, [⟨#[97]⟩, ⟨#[98]⟩], [1, 0]⟩, 1, false, 0) := by rw [useG_new (by decide) (by simp) (by decide)]; rfl
theorem awake3 : useG ⟨2, [⟨#[97]⟩, ⟨#[98]⟩], [1, 0]⟩ ⟨#[97]⟩ = (⟨2, [⟨#[97]⟩, ⟨#[98]⟩], [0, 1]⟩, 0, true, 0) := by rw [useG_had (by decide) (by simp)]; rfl
theorem awake4 : useG ⟨2, [⟨#[97]⟩, ⟨#[98]⟩], [0, 1]⟩ ⟨#[99]⟩ = (⟨2, [⟨#[97]⟩, ⟨#[99]⟩], [1, 0]⟩, 1, false, 0) := by rw [useG_full (by decide) (by simp) (by decide)]; rfl
theorem awake5 : touchG ⟨2, [⟨#[97]⟩, ⟨#[99]⟩], [1, 0]⟩ 0 = (⟨2, [⟨#[97]⟩, ⟨#[99]⟩], [0, 1]⟩, ⟨#[97]⟩, 0) := by rw [touchG, if_pos (by decide)]; rfl
theorem awake6 : lookF ⟨2, [⟨#[97]⟩, ⟨#[99]⟩], [0, 1]⟩ ⟨#[98]⟩ = -1 := by rw [lookF, if_neg (by simp)]

set_option maxRecDepth 100000 in
set_option maxHeartbeats 2000000 in
theorem awake_any (W : World) : Calls Try.prog 23 #[] W fun e w' => e = .returned (.bool true) ∧ Below W.heap.size W w' := by
  have c1 : Calls Try.prog 24 #[.int .i64 2] W _ := own_new (B := W.heap.size) (W := W) (w := W) 2 (by omega) (by omega) (Below.refl _ _) (Nat.le_refl _)
  have q1 := bytes_same ⟨#[97]⟩
  have q2 := bytes_same ⟨#[99]⟩
  go_enter Try.func23, Try.ntmps23
  go_wp2_with fail
  refine c1.mono ?_
  rintro e w1 ⟨p, rfl, o1⟩
  clear c1
  go_wp2_with fail
  refine (new_no 0 _ (by omega)).mono ?_
  rintro e w2 ⟨rfl, rfl⟩
  have c := own_use o1 (Nat.le_refl _) ⟨#[97]⟩ (by decide)
  rw [awake1] at c
  clear o1
  go_wp2_with fail
  refine c.mono ?_
  rintro e w2 ⟨rfl, o2⟩
  clear c
  have c := own_use o2 (Nat.le_refl _) ⟨#[98]⟩ (by decide)
  rw [awake2] at c
  clear o2
  go_wp2_with fail
  refine c.mono ?_
  rintro e w3 ⟨rfl, o3⟩
  clear c
  have c := own_use o3 (Nat.le_refl _) ⟨#[97]⟩ (by decide)
  rw [awake3] at c
  clear o3
  go_wp2_with fail
  refine c.mono ?_
  rintro e w4 ⟨rfl, o4⟩
  clear c
  have c := own_use o4 (Nat.le_refl _) ⟨#[99]⟩ (by decide)
  rw [awake4] at c
  clear o4
  go_wp2_with fail
  refine c.mono ?_
  rintro e w5 ⟨rfl, o5⟩
  clear c
  have c := own_touch o5 (Nat.le_refl _) 0
  rw [awake5] at c
  clear o5
  go_wp2_with fail
  refine c.mono ?_
  rintro e w6 ⟨rfl, o6⟩
  clear c
  have c := own_keys o6 (Nat.le_refl _)
  clear o6
  go_wp2_with fail
  refine c.mono ?_
  rintro e w7 ⟨A, ca, rfl, r7, a7, b7, o7⟩
  clear c
  have r8 : Row w7 9 A 2 ca [.string ⟨#[97]⟩, .string ⟨#[99]⟩] := r7
  obtain ⟨g, rfl⟩ : ∃ g, A = some ⟨g, 0, none⟩ := by
    rcases r8.form with ⟨_, h, _⟩ | ⟨g, _, h, _⟩
    · omega
    · exact ⟨g, h⟩
  have k0 : w7.cell? ⟨g, 0, none⟩ = some (.string ⟨#[97]⟩) := r8.cell rfl
  have k1 : w7.cell? ⟨g, 1, none⟩ = some (.string ⟨#[99]⟩) := r8.cell rfl
  have c := own_look o7 ⟨#[98]⟩ (by decide)
  rw [awake6] at c
  have HO := Lib.hid o7.bel
  clear r7 r8 a7 b7 o7
  go_wp2_with fail
  refine c.mono ?_
  rintro e w8 ⟨rfl, rfl⟩
  clear c
  go_wp2
  go_ret
  exact ⟨rfl, HO.out⟩
end Go.Proofs.Ytipiohkpdkandaa
