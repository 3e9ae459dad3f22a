/-
  The reference's coder in memory; New: walks. Conditions: none.
-/
import Derived.Test.YtipiohkpdkandaaRefC
import Derived.Test.YtipiohkpdkandaaRight
import Derived.Test.YtipiohkpdkandaaRecB
namespace Go.Proofs.Ytipiohkpdkandaa
set_option linter.unusedVariables false
set_option linter.unusedSimpArgs false
open Go.RowKit

/-- The reference's coder at block p: its dictionary at q, with the blocks T. -/
structure RCoderB (w : World) (p q : Nat) (c : CC) (N : Int) (T : Nat → Prop) : Prop where
  head : w.heap[p]? = some (.cells #[.pointer (some ⟨q, 0, none⟩), .int .i64 c.tick, .int .i64 c.cost] 121 (0, 0))
  dict : RefAt w q c.d N T
  apart : ¬ T p
  inv : CInv c
/-- .. and which blocks are its own. -/
def RCoderAt (w : World) (p : Nat) (c : CC) (N : Int) (S : Nat → Prop) : Prop := ∃ q T, RCoderB w p q c N T ∧ ∀ b, S b ↔ b = p ∨ T b
section
variable {w w' : World} {p q : Nat} {c : CC} {N : Int} {T S : Nat → Prop}
theorem RCoderB.lt (h : RCoderB w p q c N T) : p < w.heap.size := (Array.getElem?_eq_some_iff.1 h.head).1
theorem RCoderB.c0 (h : RCoderB w p q c N T) : w.cell? ⟨p, 0, none⟩ = some (.pointer (some ⟨q, 0, none⟩)) := by simp [World.cell?, h.head]
theorem RCoderB.c1 (h : RCoderB w p q c N T) : w.cell? ⟨p, 1, none⟩ = some (.int .i64 c.tick) := by simp [World.cell?, h.head]
theorem RCoderB.c2 (h : RCoderB w p q c N T) : w.cell? ⟨p, 2, none⟩ = some (.int .i64 c.cost) := by simp [World.cell?, h.head]
theorem RCoderB.free (h : RCoderB w p q c N T) (i : Nat) : w.frozen? ⟨p, i, none⟩ = false := by simp [World.frozen?, h.head]
theorem RCoderB.kept {U : Nat → Prop} (h : RCoderB w p q c N T) (hu : Upd w w' U) (h1 : ¬ U p) (h2 : ∀ b, T b → ¬ U b) : RCoderB w' p q c N T :=
  ⟨(hu.block p h.lt h1).trans h.head, h.dict.kept hu h2, h.apart, h.inv⟩
theorem RCoderB.more {M : Int} (h : RCoderB w p q c N T) (hm : N ≤ M) : RCoderB w p q c M T := ⟨h.head, h.dict.more hm, h.apart, h.inv⟩
theorem RCoderAt.more {M : Int} (h : RCoderAt w p c N S) (hm : N ≤ M) : RCoderAt w p c M S := by
  obtain ⟨q, T, hB, hS⟩ := h
  exact ⟨q, T, hB.more hm, hS⟩
theorem RCoderAt.kept {U : Nat → Prop} (h : RCoderAt w p c N S) (hu : Upd w w' U) (hn : ∀ b, S b → ¬ U b) : RCoderAt w' p c N S := by
  obtain ⟨q, T, hB, hS⟩ := h
  exact ⟨q, T, hB.kept hu (hn p ((hS p).2 (.inl rfl))) (fun b hb => hn b ((hS b).2 (.inr hb))), hS⟩
theorem RCoderAt.lt (h : RCoderAt w p c N S) {b : Nat} (hb : S b) : b < w.heap.size := by
  obtain ⟨q, T, hB, hS⟩ := h
  rcases (hS b).1 hb with rfl | hb
  · exact hB.lt
  · exact hB.dict.lt hb
theorem RCoderAt.inv (h : RCoderAt w p c N S) : CInv c := by obtain ⟨q, T, hB, _⟩ := h; exact hB.inv
theorem RCoderAt.below (h : RCoderAt w p c N S) (hb : Below w.heap.size w w') : RCoderAt w' p c N S :=
  h.kept (Upd.of_below hb) (fun b hs => by have := h.lt hs; omega)
end
/-- A coder that the callee made. -/
def RCoderNew (w : World) (c : CC) (N : Int) (p : Nat) (w' : World) : Prop := ∃ S, RCoderAt w' p c N S ∧ (∀ b, S b → w.heap.size ≤ b) ∧ Below w.heap.size w w'
def RNewPost (w : World) (n : Nat) (e : Ending) (w' : World) : Prop := ∃ p, e = .returned (.tuple #[.pointer (some ⟨p, 0, none⟩), .int .i64 0]) ∧ RCoderNew w ⟨⟨n, [], []⟩, 0, 0⟩ 0 p w'

set_option maxRecDepth 100000 in
set_option maxHeartbeats 1000000 in
theorem refCoder_no (w : World) (p : Pol) (h : ¬ p.ok) : Calls Try.prog 36 #[.agg p.cells.toArray] w (NewBad w) := by
  have hr := refPol_any (w.alloc (.cells p.cells.toArray 23)) p
  have hf : rightF p = 40 := by rw [rightF, if_neg h]
  unfold RightIs at hr
  rw [hf] at hr
  clear hf h
  obtain ⟨kind, cap, num, den, width, count, keys, slots, every, seg⟩ := p
  unfold Pol.cells at hr ⊢
  dsimp only at hr
  go_enter Try.func36, Try.ntmps36
  go_wp2_with fail
  refine hr.mono ?_
  rintro e w1 ⟨rfl, hb⟩
  have H := Lib.hid hb
  clear hr hb
  go_wp2
  go_ret2
  exact ⟨rfl, ((Below.refl _ _).alloc (Nat.le_refl _) _).trans (H.out.mono (by simp))⟩

set_option maxRecDepth 100000 in
set_option maxHeartbeats 1000000 in
theorem refCoder_yes (w : World) (p : Pol) (h : p.ok) : Calls Try.prog 36 #[.agg p.cells.toArray] w (RNewPost w p.slots.toNat) := by
  have hr := refPol_any (w.alloc (.cells p.cells.toArray 23)) p
  have hf : rightF p = 0 := by rw [rightF, if_pos h]
  unfold RightIs at hr
  rw [hf] at hr
  have hs := h.2.2.2.1
  clear hf h
  obtain ⟨kind, cap, num, den, width, count, keys, slots, every, seg⟩ := p
  unfold Pol.cells at hr ⊢
  dsimp only at hr
  simp only at hs ⊢
  obtain ⟨n, rfl⟩ := Int.eq_ofNat_of_zero_le (show 0 ≤ slots by omega)
  have hnew := fun w => refNew_yes n w (by omega) (by omega)
  have HI := Lib.hid (CInv.new (n := n) (by omega) (by omega))
  rw [show ((n : Int)).toNat = n by omega]
  clear hs
  go_enter Try.func36, Try.ntmps36
  go_wp2_with fail
  refine hr.mono ?_
  rintro e w1 ⟨rfl, hb⟩
  have hc7 := (hb.cell (p := ⟨w.heap.size, 7, none⟩) (by simp)).trans (by simp; rfl)
  have H := Lib.hid hb
  clear hr hb
  go_wp2_with fail
  refine (hnew _).mono ?_
  rintro e w2 ⟨q, rfl, hq⟩
  have H2 := Lib.hid hq
  clear hnew hq hc7
  go_wp2
  go_ret2
  obtain ⟨T, t1, t2, t3⟩ := H2.out
  have s1 := H.out.size
  have s2 := t3.size
  rw [alloc_size] at s1
  refine ⟨w2.heap.size, rfl, _, ⟨q, T, ⟨heap_alloc_new w2 _, t1.kept ((Upd.refl _ _).alloc _) (fun _ _ h => h), fun h => by have := t1.lt h; omega, HI.out⟩, fun b => Iff.rfl⟩, ?_, ?_⟩
  · rintro b (rfl | hb)
    · omega
    · have := t2 b hb; omega
  · exact ((((Below.refl _ _).alloc (Nat.le_refl _) _).trans (H.out.mono (by simp))).trans (t3.mono (by omega))).alloc (by omega) _
end Go.Proofs.Ytipiohkpdkandaa
