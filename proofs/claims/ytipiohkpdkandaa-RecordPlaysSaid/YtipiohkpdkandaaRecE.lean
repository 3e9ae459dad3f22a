/-
  Records and faults held against each other. Conditions: none.
-/
import Derived.Test.YtipiohkpdkandaaRecG
import Derived.Laws.StructEq
namespace Go.Proofs.Ytipiohkpdkandaa
set_option linter.unusedVariables false
set_option linter.unusedSimpArgs false
open Go.RowKit

/-- two records are one -/
def recBeq (r s : Rec) : Bool := r.tick == s.tick && (r.key.toList == s.key.toList && (r.cost == s.cost && r.verdict == s.verdict))
theorem recBeq_self (r : Rec) : recBeq r r = true := by simp [recBeq]
theorem rec_eql (w : World) (r s : Rec) : (binOp .eql 34 r.val s.val).run Try.prog w = .ok (.bool (recBeq r s)) w := by
  have hu : Try.prog.underlying 34 = some (.struct (Try.prog.fieldsOf 34)) := by kernel_rfl
  have hp : Try.prog.stoodInHeld 34 = false := by kernel_rfl
  have h3 := Try.underlying3
  have h9 := Try.underlying9
  unfold Rec.val
  rw [run_eql_struct, run_equalIn_struct _ _ _ _ _ hu hp]
  simp only [Program.fieldsOf, Try.underlying34]
  simp [go_sem, h3, h9, recBeq]
  by_cases h1 : r.tick = s.tick <;> by_cases h2 : r.key.toList = s.key.toList <;> by_cases h3 : r.cost = s.cost <;> by_cases h4 : r.verdict = s.verdict <;> simp [h1, h2, h3, h4]

/-! ### The document's examples -/
def c0 : CC := ⟨⟨2, [], []⟩, 0, 0⟩
def r0 : Rec := ⟨5, ⟨#[97]⟩, 3, 1⟩
def c1 : CC := ⟨⟨2, [⟨#[97]⟩], [0]⟩, 5, 3⟩
theorem r0_ok : r0.ok := ⟨by decide, by decide, by decide, by decide, by decide, by decide, by decide⟩
theorem c0_inv : CInv c0 := CInv.new (by decide) (by decide)
theorem put_r0 : putF c0 r0 = (c1, [21, 6, 0, 1, 97], 0) := by
  rw [putF_yes r0_ok (by decide)]
  have hu : useG c0.d r0.key = (⟨2, [⟨#[97]⟩], [0]⟩, 0, false, 0) := awake1
  have h1 : firstN c0 r0 = 21 := rfl
  have h2 : secondN c0 r0 = 6 := by unfold secondN zigF; rfl
  have h3 : tailB c0 r0 = [0, 1, 97] := by
    unfold tailB
    rw [hu, if_neg (by decide), digs_zero, digs_lo (by decide)]
    rfl
  unfold putC putB
  rw [hu, h1, h2, h3, digs_lo (by decide), digs_lo (by decide)]
  rfl
theorem get_r0 : getF c0 [21, 6, 0, 1, 97] 0 = (c1, r0, 5, 0, 0) := by
  have h := getF_put c0_inv r0_ok (by decide) [] [] (p := 0) rfl
  have hp := put_r0
  rw [putF_yes r0_ok (by decide)] at hp
  injection hp with hc hp
  injection hp with hb _
  rw [hb, hc] at h
  exact h
theorem put_r1 : putF c1 ⟨4, ⟨#[97]⟩, 1, 0⟩ = (c1, [], 60) := putF_late (recErr_ok.2 ⟨by decide, by decide, by decide, by decide, by decide, by decide, by decide⟩) (by decide)

def plainP : Pol := ⟨1, 9, 1, 1, 0, 0, 3, 2, 0, 5⟩
def zeroP : Pol := ⟨0, 0, 0, 0, 0, 0, 0, 0, 0, 0⟩
theorem plain_ok : plainP.ok := by unfold Pol.ok plainP; decide
theorem zero_no : ¬ zeroP.ok := by unfold Pol.ok zeroP; decide
def PlainIs (w : World) (e : Ending) (w' : World) : Prop := e = .returned (.agg plainP.cells.toArray) ∧ Below w.heap.size w w'
set_option maxRecDepth 100000 in
theorem plain_any (w : World) : Calls Try.prog 42 #[] w (PlainIs w) := by
  go_enter Try.func42, Try.ntmps42
  go_wp2
  refine bodyPost_ret_by (v := .agg plainP.cells.toArray) ?_ rfl ⟨rfl, (Below.refl _ _).alloc (Nat.le_refl _) _⟩
  have hu := Try.underlying23
  have hi : (Try.prog.info? 23).map (·.size) = some 10 := by kernel_rfl
  exact results_cell_row (p := 0) rfl _ _ w.heap.size 23 plainP.cells.toArray (0, 0) _ rfl (heap_alloc_new w _) hu rfl hi
end Go.Proofs.Ytipiohkpdkandaa
