/-
  Clone of a coder: walk. Conditions: none.
-/
import Derived.Test.YtipiohkpdkandaaRecB
namespace Go.Proofs.Ytipiohkpdkandaa
set_option linter.unusedVariables false
set_option linter.unusedSimpArgs false
open Go.RowKit

def CoderIs (w : World) (p q : Nat) (c : CC) (w' : World) : Prop :=
  w'.cell? ⟨p, 0, none⟩ = some (.pointer (some ⟨q, 0, none⟩)) ∧ w'.cell? ⟨p, 1, none⟩ = some (.int .i64 c.tick) ∧ w'.cell? ⟨p, 2, none⟩ = some (.int .i64 c.cost) ∧ Below w.heap.size w w'
def ClonePost (w : World) (c : CC) (e : Ending) (w' : World) : Prop := ∃ p, e = .returned (.pointer (some ⟨p, 0, none⟩)) ∧ CoderNew w c p w'
set_option maxRecDepth 100000 in
set_option maxHeartbeats 2000000 in
theorem recClone_any {w : World} {p : Nat} {c : CC} {S : Nat → Prop} (h : CoderAt w p c S) : Calls Try.prog 20 #[.pointer (some ⟨p, 0, none⟩)] w (ClonePost w c) := by
  have hinv := h.inv
  have h' := h
  obtain ⟨q, T, hB, hS⟩ := h
  have HK : ∀ w', Below w.heap.size w w' → CoderIs w p q c w' := fun w' hb => by
    have h1 := hB.kept (Upd.of_below hb) (by have := hB.lt; omega) (fun b hb => by have := hB.dict.lt hb; omega)
    exact ⟨h1.c0, h1.c1, h1.c2, hb⟩
  have hcl : ∀ w', Below w.heap.size w w' → Calls Try.prog 32 #[.pointer (some ⟨q, 0, none⟩)] w' (fun e w'' => ∃ q2, e = .returned (.pointer (some ⟨q2, 0, none⟩)) ∧ DictNew w' c.d q2 w'' ∧ Below w.heap.size w w'') := fun w' hb => by
    have h1 := hB.kept (Upd.of_below hb) (by have := hB.lt; omega) (fun b hb => by have := hB.dict.lt hb; omega)
    refine (dclone h1.dict).mono ?_
    rintro e w'' ⟨q2, rfl, S2, a1, a2, a3⟩
    exact ⟨q2, rfl, ⟨S2, a1, a2, a3⟩, hb.trans (a3.mono hb.size)⟩
  have B0 : Below w.heap.size w w := Below.refl _ _
  have HI := Lib.hid hinv
  clear hB hS h' hinv
  go_enter Try.func20, Try.ntmps20
  go_wp2_with fail
  go_region_held3 (fun w' => w'.cell? ⟨p, 0, none⟩ = some (.pointer (some ⟨q, 0, none⟩)) ∧ w'.cell? ⟨p, 1, none⟩ = some (.int .i64 c.tick) ∧ w'.cell? ⟨p, 2, none⟩ = some (.int .i64 c.cost) ∧ Below w.heap.size w w')
    (first | exact HK _ (by assumption) | exact HK _ (Below.drew (by assumption)) | exact HK _ (below_alloc (by assumption) _) | exact HK _ (Below.drew (below_alloc (by assumption) _)) | go_keep)
    ((go_at_call 32; refine (hcl _ (by first | assumption | exact Below.drew (by assumption) | exact Below.drew (Below.drew (by assumption)))).mono ?_; rintro e w1 ⟨q2, rfl, a1, b1⟩))
  obtain ⟨T2, t1, t2, t3⟩ := a1
  have t3' : Below w.heap.size w.drew w1 := t3
  have HX := Lib.hid (And.intro t1 (And.intro t2 b1))
  clear HK hcl t1 t2 t3 t3' b1 B0
  go_wp2
  go_ret
  have hs := HX.out.2.2.size
  refine ⟨w1.heap.size, rfl, _, ⟨q2, T2, ⟨heap_alloc_new w1 _, HX.out.1.kept ((Upd.refl _ _).alloc _) (fun _ _ h => h), fun h => by have := HX.out.1.lt h; omega, HI.out⟩, fun b => Iff.rfl⟩, ?_, HX.out.2.2.alloc hs _⟩
  rintro b (rfl | hb)
  · exact hs
  · exact HX.out.2.1 b hb
end Go.Proofs.Ytipiohkpdkandaa
