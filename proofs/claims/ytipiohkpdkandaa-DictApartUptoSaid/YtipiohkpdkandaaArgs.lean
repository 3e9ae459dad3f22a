/-
  An element of an opened argument. Conditions: none.
-/
import Derived.Test.YtipiohkpdkandaaOpen
namespace Go.Proofs.Ytipiohkpdkandaa
open Go.RowKit
theorem StrsArg.at {W : World} {A : Option Addr} {n c : Nat} {l : List ByteArray} (ra : StrsArg W A n c l) {i : Nat} (hi : i < n) : ∃ b o key, A = some ⟨b, o, none⟩ ∧ l[i]? = some key ∧ key.size ≤ maxLen ∧ ∀ w, Below W.heap.size W w → w.cell? ⟨b, o + i, none⟩ = some (.string key) := by
  have hl := ra.len
  obtain ⟨key, hkey⟩ : ∃ key, l[i]? = some key := ⟨_, List.getElem?_eq_getElem (by omega)⟩
  obtain ⟨b, o, rfl, _⟩ := ra.rd.form (by omega)
  refine ⟨b, o, key, rfl, hkey, ra.max key (List.mem_of_getElem? hkey), fun w hb => ?_⟩
  obtain ⟨b', o', e, h⟩ := (ra.rd.below hb (Nat.le_refl _)).form (by omega)
  injection e with e; injection e with e1 e2; subst e1; subst e2
  exact h i _ (by simp [strs, hkey])
theorem IntsArg.at {k : IntKind} {B : Nat} {W : World} {A : Option Addr} {n c : Nat} {l : List Int} (ra : IntsArg k B W A n c l) {i : Nat} (hi : i < n) : ∃ b o x, A = some ⟨b, o, none⟩ ∧ l[i]? = some x ∧ (Lit.int k x).wf = true ∧ ∀ w, Below W.heap.size W w → w.cell? ⟨b, o + i, none⟩ = some (.int k x) := by
  have hl := ra.len
  obtain ⟨x, hx⟩ : ∃ x, l[i]? = some x := ⟨_, List.getElem?_eq_getElem (by omega)⟩
  obtain ⟨b, o, rfl, _⟩ := ra.rd.form (by omega)
  refine ⟨b, o, x, rfl, hx, ra.wf x (List.mem_of_getElem? hx), fun w hb => ?_⟩
  obtain ⟨b', o', e, h⟩ := (ra.rd.below hb (Nat.le_refl _)).form (by omega)
  injection e with e; injection e with e1 e2; subst e1; subst e2
  exact h i _ (by rw [nums_get, hx]; rfl)
end Go.Proofs.Ytipiohkpdkandaa
