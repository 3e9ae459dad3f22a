/-
  The walk of the law BitsFolds. Conditions: none.
-/
import Derived.Test.YtdojfkiocojpgaaAwake
import Derived.Test.YtdojfkiocojpgaaFoldsPure
namespace Go.Proofs.Ytdojfkiocojpgaa
set_option linter.unusedVariables false
set_option linter.unusedSimpArgs false
open Go.RowKit

def Ret2 (a b : Int) (w : World) (e : Ending) (w' : World) : Prop := e = .returned (.tuple #[.int .i64 a, .int .i64 b]) ∧ w = w'
def Ret1 (a : Int) (w : World) (e : Ending) (w' : World) : Prop := e = .returned (.int .i64 a) ∧ w = w'

set_option maxRecDepth 100000 in
set_option maxHeartbeats 8000000 in
theorem folds_core (W : World) (n m u e v f x g y h z i a b : Int)
    (c1 : ∀ w, Calls Try.prog 21 #[.int .i64 n] w (Ret2 u e w)) (c2 : ∀ w, Calls Try.prog 21 #[.int .i64 m] w (Ret2 v f w))
    (c3 : ∀ w, Calls Try.prog 22 #[.int .i64 u] w (Ret2 x g w)) (c4 : ∀ w, Calls Try.prog 22 #[.int .i64 n] w (Ret2 y h w))
    (c5 : ∀ w, Calls Try.prog 21 #[.int .i64 y] w (Ret2 z i w))
    (c6 : ∀ w, Calls Try.prog 14 #[.int .i64 n] w (Ret1 a w)) (c7 : ∀ w, Calls Try.prog 14 #[.int .i64 m] w (Ret1 b w))
    (k1 : a ≤ b ∨ (b < a ∧ m < n) ∨ (b < a ∧ n ≤ m ∧ b ≤ 0)) (k2 : (h == 0) = false ∨ (h = 0 ∧ z = n ∧ i = 0))
    (k3 : ((e != 0) = true ∧ u = 0) ∨ (e = 0 ∧ x = n ∧ g = 0 ∧ 0 ≤ u ∧ ((f != 0) = true ∨ (f = 0 ∧ ((n = m ∧ u = v) ∨ ((n == m) = false ∧ (u == v) = false ∧ Hid ((n < 0 ∨ m < 0) ∨ (u < v ↔ n < m)))))))) :
    Calls Try.prog 8 #[.int .i64 n, .int .i64 m] W fun e W' => e = .returned (.bool true) ∧ Below W.heap.size W W' := by
  have aw := awake_any W
  go_enter Try.func8, Try.ntmps8
  go_wp2_with fail
  refine aw.mono ?_
  rintro e w1 ⟨rfl, hb⟩
  clear aw
  go_wp2_with fail
  refine (c1 _).mono ?_
  rintro e w1 ⟨rfl, rfl⟩
  go_wp2_with fail
  refine (c2 _).mono ?_
  rintro e w1 ⟨rfl, rfl⟩
  go_wp2_with fail
  refine (c3 _).mono ?_
  rintro e w1 ⟨rfl, rfl⟩
  go_wp2_with fail
  refine (c4 _).mono ?_
  rintro e w1 ⟨rfl, rfl⟩
  go_wp2_with fail
  refine (c5 _).mono ?_
  rintro e w1 ⟨rfl, rfl⟩
  go_wp2_with fail
  refine (c6 _).mono ?_
  rintro e w1 ⟨rfl, rfl⟩
  go_wp2_with fail
  refine (c7 _).mono ?_
  rintro e w1 ⟨rfl, rfl⟩
  clear c1 c2 c3 c4 c5 c6 c7
  rcases k1 with k1 | ⟨k1, k1b⟩ | ⟨k1, k1b, k1c⟩
  all_goals rcases k2 with k2 | ⟨rfl, rfl, rfl⟩
  all_goals rcases k3 with ⟨k3, rfl⟩ | ⟨rfl, rfl, rfl, k4, k5 | ⟨rfl, ⟨rfl, rfl⟩ | ⟨k6, k7, k8⟩⟩⟩
  all_goals go_wp2
  all_goals go_ret
  all_goals refine ⟨?_, hb⟩
  all_goals first | (simp [*]; done) | (simp [*]; exact k8.out)

theorem bitsFolds_walk (W : World) (n : Int) (_w : (Lit.int .i64 n).wf = true) (m : Int) (_w2 : (Lit.int .i64 m).wf = true) :
    Calls Try.prog 8 #[.int .i64 n, .int .i64 m] W fun e W' => e = .returned (.bool true) ∧ Below W.heap.size W W' := by
  refine folds_core W n m _ _ _ _ _ _ _ _ _ _ _ _ (fun w => zig_any n w) (fun w => zig_any m w) (fun w => zag_any _ w) (fun w => zag_any n w) (fun w => zig_any _ w) (fun w => size_any n w) (fun w => size_any m w) ?_ ?_ ?_
  · by_cases h1 : sizeF n ≤ sizeF m
    · exact .inl h1
    · by_cases h2 : m < n
      · exact .inr (.inl ⟨by omega, h2⟩)
      · refine .inr (.inr ⟨by omega, by omega, ?_⟩)
        by_cases h3 : 0 < sizeF m
        · exact absurd (size_mono (by omega) h3) h1
        · omega
  · by_cases h1 : (zagF n).2 = 0
    · right
      rw [zig_zag h1]
      exact ⟨h1, rfl, rfl⟩
    · left; simpa using h1
  · rcases zig_cases n with ⟨h1, h2⟩ | ⟨h1, h2, h3⟩
    · left
      exact ⟨by rw [h1]; rfl, h2⟩
    · right
      rw [h3]
      refine ⟨h1, rfl, rfl, h2, ?_⟩
      rcases zig_cases m with ⟨j1, j2⟩ | ⟨j1, j2, j3⟩
      · left; rw [j1]; rfl
      · right
        refine ⟨j1, ?_⟩
        obtain ⟨q1, q2⟩ := zig_inj h1 j1
        by_cases hnm : n = m
        · exact .inl ⟨hnm, q1.2 hnm⟩
        · right
          refine ⟨by simpa using hnm, by simpa using fun h => hnm (q1.1 h), ?_⟩
          show _ ∨ _
          by_cases hn : n < 0
          · exact .inl (.inl hn)
          · by_cases hm : m < 0
            · exact .inl (.inr hm)
            · exact .inr (q2 (by omega) (by omega))
end Go.Proofs.Ytdojfkiocojpgaa
