/-
  The arguments of a law, opened: slices of whole numbers and of strings, as they are read. Conditions: none.
-/
import Derived.Test.YtipiohkpdkandaaLib
import Derived.WalkKit
import Derived.ProofKit
import Derived.OpenShut
import Derived.ShutString
import Derived.ChangeOld
import Derived.Below
import Derived.SizedLaws
import Derived.ChangeSlices
import Derived.SliceStrings
namespace Go.Proofs.Ytipiohkpdkandaa
open Go.RowKit Go.ChangeShapes Go.WideShapes Go.ChangeAt

/-- A slice argument of whole numbers. -/
structure IntsArg (k : IntKind) (bytes : Nat) (w : World) (A : Option Addr) (n c : Nat) (l : List Int) : Prop where
  rd : Rd w A n (nums k l)
  wf : ∀ x ∈ l, (Lit.int k x).wf = true
  room : n * bytes ≤ 140737488351232
  cap : n ≤ c
  lt : ∀ g, blk A = some g → g < w.heap.size ∨ n = 0
theorem IntsArg.len {k : IntKind} {bytes : Nat} {w : World} {A : Option Addr} {n c : Nat} {l : List Int} (h : IntsArg k bytes w A n c l) : l.length = n := by have := h.rd.len; rwa [nums_length] at this

/-- A slice argument of strings. -/
def strs (ss : List ByteArray) : List Value := ss.map .string
structure StrsArg (w : World) (A : Option Addr) (n c : Nat) (l : List ByteArray) : Prop where
  rd : Rd w A n (strs l)
  max : ∀ s ∈ l, s.size ≤ maxLen
  room : n * 16 ≤ 140737488351232
  cap : n ≤ c
theorem StrsArg.len {w : World} {A : Option Addr} {n c : Nat} {l : List ByteArray} (h : StrsArg w A n c l) : l.length = n := by have := h.rd.len; simpa [strs] using this

section
variable {H : Type} {enc : TypeId × Value → H} {P : Program} {W : World} {base : Nat} {held : Bool} {ts : List TypeId} {ds : List (DataW H)}

theorem open_ints_arg {t e : TypeId} {k : IntKind} {a : Option Addr} {len cap : Nat} {d : DataW H} {ps : List MemPlace} {j : Nat}
    (hsz : (DataW.weightsEach P ts ds).all (· ≤ reachBytes) = true) (ht : ts[j]? = some t) (hd : ds[j]? = some d) (hu : P.underlying t = some (.slice e)) (he : P.underlying e = some (.int k)) (hc : P.cellsOf e = 1) {B : Nat} (hB : P.bytesOf e = B)
    (h : DataW.Trod enc P W base (fun _ => true) held t (.slice a len cap) d ps) : ∃ l, IntsArg k B W a len cap l := by
  obtain ⟨fuel, hf⟩ := h
  rcases open_ints hu he hc hf with ⟨hcs, _⟩ | ⟨x, l, c, zs, hcs, _, hl, hm, hz, hx, hcell, hwz⟩
  · simp [Value.cells] at hcs
    obtain ⟨rfl, rfl, rfl⟩ := hcs
    exact ⟨[], ⟨⟨rfl, by omega, fun h => by omega⟩, fun x hx => by simp at hx, by omega, Nat.le_refl _, fun g hg => by cases hg⟩⟩
  · simp [Value.cells] at hcs
    obtain ⟨rfl, rfl, rfl⟩ := hcs
    simp only [if_true] at hz
    obtain ⟨hx, _⟩ := Prod.mk.inj hx
    subst hx
    have z := sized_slice hsz ht hd hu
    rw [hB] at z
    have h1 : (lits (H := H) k (zs.take len)).length + (lits (H := H) k (zs.drop len)).length = zs.length := by
      simp [lits]; omega
    rw [h1] at z
    have hlz : len ≤ zs.length := by omega
    refine ⟨zs.take len, ⟨⟨by rw [nums_length]; simp; omega, by simp only [maxLen] at hm; omega, fun hp => ⟨_, rfl, fun j u hj => ?_⟩⟩, fun y hy => hwz y (List.mem_of_mem_take hy), Nat.le_trans (Nat.mul_le_mul_right _ hlz) z, hl, fun g hg => ?_⟩⟩
    · rw [nums_get, List.getElem?_take] at hj
      split at hj
      · rename_i hjl
        have hjz : j < zs.length := by omega
        rw [List.getElem?_eq_getElem hjz] at hj
        simp at hj
        subst hj
        rw [hcell j hjz, List.getD_eq_getElem?_getD, List.getElem?_eq_getElem hjz]
        rfl
      · simp at hj
    · by_cases h0 : len = 0
      · exact .inr h0
      · left
        have := World.block_lt_of_cell? W _ (hcell 0 (by omega))
        rw [show (x.add 0).block = x.block by unfold Addr.add; split <;> rfl] at this
        simp [blk] at hg
        omega

theorem open_strs_arg {t e : TypeId} {a : Option Addr} {len cap : Nat} {d : DataW H} {ps : List MemPlace} {j : Nat}
    (hsz : (DataW.weightsEach P ts ds).all (· ≤ reachBytes) = true) (ht : ts[j]? = some t) (hd : ds[j]? = some d) (hu : P.underlying t = some (.slice e)) (he : P.underlying e = some .string) (hc : P.cellsOf e = 1) (hB : P.bytesOf e = 16)
    (h : DataW.Trod enc P W base (fun _ => true) held t (.slice a len cap) d ps) : ∃ l, StrsArg W a len cap l := by
  obtain ⟨fuel, hf⟩ := h
  rcases open_strings hu he hc hf with ⟨hcs, _⟩ | ⟨x, l, c, zs, hcs, _, hl, hm, hz, hx, hcell, hwz⟩
  · simp [Value.cells] at hcs
    obtain ⟨rfl, rfl, rfl⟩ := hcs
    exact ⟨[], ⟨⟨rfl, by omega, fun h => by omega⟩, fun x hx => by simp at hx, by omega, Nat.le_refl _⟩⟩
  · simp [Value.cells] at hcs
    obtain ⟨rfl, rfl, rfl⟩ := hcs
    simp only [if_true] at hz
    obtain ⟨hx, _⟩ := Prod.mk.inj hx
    subst hx
    have z := sized_slice hsz ht hd hu
    rw [hB] at z
    have h1 : (Go.ChangeShapes.strs (H := H) (zs.take len)).length + (Go.ChangeShapes.strs (H := H) (zs.drop len)).length = zs.length := by
      simp [Go.ChangeShapes.strs]; omega
    rw [h1] at z
    have hlz : len ≤ zs.length := by omega
    refine ⟨zs.take len, ⟨⟨by simp [strs]; omega, by simp only [maxLen] at hm; omega, fun hp => ⟨_, rfl, fun j u hj => ?_⟩⟩, fun y hy => hwz y (List.mem_of_mem_take hy), Nat.le_trans (Nat.mul_le_mul_right _ hlz) z, hl⟩⟩
    rw [strs, List.getElem?_map, List.getElem?_take] at hj
    split at hj
    · rename_i hjl
      have hjz : j < zs.length := by omega
      rw [List.getElem?_eq_getElem hjz] at hj
      simp at hj
      subst hj
      rw [hcell j hjz, List.getD_eq_getElem?_getD, List.getElem?_eq_getElem hjz]
      rfl
    · simp at hj
end
theorem wf_u8_bd {x : Int} (h : (Lit.int .u8 x).wf = true) : 0 ≤ x ∧ x ≤ 255 := by simpa [Lit.wf, IntKind.min, IntKind.max, IntKind.signed, IntKind.bits] using h
end Go.Proofs.Ytipiohkpdkandaa
