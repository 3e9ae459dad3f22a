/-
  The walk of the law BitsZigs. Conditions: none.
-/
import Derived.Test.YtdojfkiocojpgaaAwake
namespace Go.Proofs.Ytdojfkiocojpgaa
set_option linter.unusedVariables false
set_option linter.unusedSimpArgs false
open Go.RowKit

set_option maxRecDepth 100000 in
set_option maxHeartbeats 2000000 in
theorem bitsZigs_walk (W : World) (n : Int) (_w : (Lit.int .i64 n).wf = true) :
    Calls Try.prog 5 #[.int .i64 n] W fun e W' => e = .returned (.bool true) ∧ Below W.heap.size W W' := by
  have hz : ∃ p q, (zigF n).1 = p ∧ (zigF n).2 = q := ⟨_, _, rfl, rfl⟩
  obtain ⟨p, q, hp, hq⟩ := hz
  have hz : ∃ r s, (zagF n).1 = r ∧ (zagF n).2 = s := ⟨_, _, rfl, rfl⟩
  obtain ⟨r, s, hr, hs⟩ := hz
  have c1 := fun w => zig_any n w
  have c2 := fun w => zag_any n w
  have c3 := fun w => refZig_any n w
  have c4 := fun w => refZag_any n w
  simp only [hp, hq, hr, hs] at c1 c2 c3 c4
  clear hp hq hr hs
  go_enter Try.func5, Try.ntmps5
  go_wp2_with fail
  refine (awake_any W).mono ?_
  rintro e w1 ⟨rfl, hb⟩
  go_wp2_with fail
  refine (c1 _).mono ?_
  rintro e w1 ⟨rfl, rfl⟩
  go_wp2_with fail
  refine (c2 _).mono ?_
  rintro e w1 ⟨rfl, rfl⟩
  go_wp2_with fail
  refine (c3 _).mono ?_
  rintro e w1 ⟨rfl, rfl⟩
  go_wp2_with fail
  refine (c4 _).mono ?_
  rintro e w1 ⟨rfl, rfl⟩
  clear c1 c2 c3 c4
  go_wp2
  go_ret
  exact ⟨by simp, hb⟩
end Go.Proofs.Ytdojfkiocojpgaa
