/-
  A coder in memory; New: walk. Conditions: none.
-/
import Derived.Test.YtipiohkpdkandaaRecA
import Derived.Test.YtipiohkpdkandaaPolB
import Derived.Deep.RegionHeld3
namespace Go.Proofs.Ytipiohkpdkandaa
set_option linter.unusedVariables false
set_option linter.unusedSimpArgs false
open Go.RowKit

/-- The coder at block p: its dictionary at q, with the blocks T. -/
structure CoderB (w : World) (p q : Nat) (c : CC) (T : Nat → Prop) : Prop where
  head : w.heap[p]? = some (.cells #[.pointer (some ⟨q, 0, none⟩), .int .i64 c.tick, .int .i64 c.cost] 100 (0, 0))
  dict : DictAt w q c.d T
  apart : ¬ T p
  inv : CInv c
/-- .. and which blocks are its own. -/
def CoderAt (w : World) (p : Nat) (c : CC) (S : Nat → Prop) : Prop := ∃ q T, CoderB w p q c T ∧ ∀ b, S b ↔ b = p ∨ T b
section
variable {w : World} {p q : Nat} {c : CC} {T S : Nat → Prop}
theorem CoderB.lt (h : CoderB w p q c T) : p < w.heap.size := (Array.getElem?_eq_some_iff.1 h.head).1
theorem CoderB.c0 (h : CoderB w p q c T) : w.cell? ⟨p, 0, none⟩ = some (.pointer (some ⟨q, 0, none⟩)) := by simp [World.cell?, h.head]
theorem CoderB.c1 (h : CoderB w p q c T) : w.cell? ⟨p, 1, none⟩ = some (.int .i64 c.tick) := by simp [World.cell?, h.head]
theorem CoderB.c2 (h : CoderB w p q c T) : w.cell? ⟨p, 2, none⟩ = some (.int .i64 c.cost) := by simp [World.cell?, h.head]
theorem CoderB.free (h : CoderB w p q c T) (i : Nat) : w.frozen? ⟨p, i, none⟩ = false := by simp [World.frozen?, h.head]
theorem CoderB.kept {w' : World} {U : Nat → Prop} (h : CoderB w p q c T) (hu : Upd w w' U) (h1 : ¬ U p) (h2 : ∀ b, T b → ¬ U b) : CoderB w' p q c T :=
  ⟨(hu.block p h.lt h1).trans h.head, h.dict.kept hu h2, h.apart, h.inv⟩
theorem CoderAt.kept {w' : World} {U : Nat → Prop} (h : CoderAt w p c S) (hu : Upd w w' U) (hn : ∀ b, S b → ¬ U b) : CoderAt w' p c S := by
  obtain ⟨q, T, hB, hS⟩ := h
  exact ⟨q, T, hB.kept hu (hn p ((hS p).2 (.inl rfl))) (fun b hb => hn b ((hS b).2 (.inr hb))), hS⟩
theorem CoderAt.lt (h : CoderAt w p c S) {b : Nat} (hb : S b) : b < w.heap.size := by
  obtain ⟨q, T, hB, hS⟩ := h
  rcases (hS b).1 hb with rfl | hb
  · exact hB.lt
  · exact hB.dict.lt hb
theorem CoderAt.inv (h : CoderAt w p c S) : CInv c := by obtain ⟨q, T, hB, _⟩ := h; exact hB.inv
theorem CoderAt.below {w' : World} (h : CoderAt w p c S) (hb : Below w.heap.size w w') : CoderAt w' p c S :=
  h.kept (Upd.of_below hb) (fun b hs => by have := h.lt hs; omega)
end
/-- A coder that the callee made. -/
def CoderNew (w : World) (c : CC) (p : Nat) (w' : World) : Prop := ∃ S, CoderAt w' p c S ∧ (∀ b, S b → w.heap.size ≤ b) ∧ Below w.heap.size w w'
def NewPost (w : World) (n : Nat) (e : Ending) (w' : World) : Prop := ∃ p, e = .returned (.tuple #[.pointer (some ⟨p, 0, none⟩), .int .i64 0]) ∧ CoderNew w ⟨⟨n, [], []⟩, 0, 0⟩ p w'
def NewBad (w : World) (e : Ending) (w' : World) : Prop := e = .returned (.tuple #[.pointer none, .int .i64 40]) ∧ Below w.heap.size w w'

set_option maxRecDepth 100000 in
set_option maxHeartbeats 1000000 in
theorem recNew_no (w : World) (p : Pol) (h : ¬ p.ok) : Calls Try.prog 18 #[.agg p.cells.toArray] w (NewBad w) := by
  have hr := right_any (w.alloc (.cells p.cells.toArray 23)) p
  have hf : rightF p = 40 := by rw [rightF, if_neg h]
  unfold RightIs at hr
  rw [hf] at hr
  clear hf h
  obtain ⟨kind, cap, num, den, width, count, keys, slots, every, seg⟩ := p
  unfold Pol.cells at hr ⊢
  dsimp only at hr
  go_enter Try.func18, Try.ntmps18
  go_wp2_with fail
  refine hr.mono ?_
  rintro e w1 ⟨rfl, hb⟩
  have H := Lib.hid hb
  clear hr hb
  go_wp2
  go_ret2
  exact ⟨rfl, ((Below.refl _ _).alloc (Nat.le_refl _) _).trans (H.out.mono (by simp))⟩

set_option maxRecDepth 100000 in
set_option maxHeartbeats 1000000 in
theorem recNew_yes (w : World) (p : Pol) (h : p.ok) : Calls Try.prog 18 #[.agg p.cells.toArray] w (NewPost w p.slots.toNat) := by
  have hr := right_any (w.alloc (.cells p.cells.toArray 23)) p
  have hf : rightF p = 0 := by rw [rightF, if_pos h]
  unfold RightIs at hr
  rw [hf] at hr
  have hs := h.2.2.2.1
  clear hf h
  obtain ⟨kind, cap, num, den, width, count, keys, slots, every, seg⟩ := p
  unfold Pol.cells at hr ⊢
  dsimp only at hr
  simp only at hs ⊢
  obtain ⟨n, rfl⟩ := Int.eq_ofNat_of_zero_le (show 0 ≤ slots by omega)
  have hnew := fun w => new_yes n w (by omega) (by omega)
  have HI := Lib.hid (CInv.new (n := n) (by omega) (by omega))
  rw [show ((n : Int)).toNat = n by omega]
  clear hs
  go_enter Try.func18, Try.ntmps18
  go_wp2_with fail
  refine hr.mono ?_
  rintro e w1 ⟨rfl, hb⟩
  have hc7 := (hb.cell (p := ⟨w.heap.size, 7, none⟩) (by simp)).trans (by simp; rfl)
  have H := Lib.hid hb
  clear hr hb
  go_wp2_with fail
  refine (hnew _).mono ?_
  rintro e w2 ⟨q, rfl, hq⟩
  have H2 := Lib.hid hq
  clear hnew hq hc7
  go_wp2
  go_ret2
  obtain ⟨T, t1, t2, t3⟩ := H2.out
  have s1 := H.out.size
  have s2 := t3.size
  rw [alloc_size] at s1
  refine ⟨w2.heap.size, rfl, _, ⟨q, T, ⟨heap_alloc_new w2 _, t1.kept ((Upd.refl _ _).alloc _) (fun _ _ h => h), fun h => by have := t1.lt h; omega, HI.out⟩, fun b => Iff.rfl⟩, ?_, ?_⟩
  · rintro b (rfl | hb)
    · omega
    · have := t2 b hb; omega
  · exact ((((Below.refl _ _).alloc (Nat.le_refl _) _).trans (H.out.mono (by simp))).trans (t3.mono (by omega))).alloc (by omega) _
end Go.Proofs.Ytipiohkpdkandaa
