/-
  Sizes rise with numbers; folding is taken back. Plain. Conditions: none.
-/
import Derived.Test.YtdojfkiocojpgaaSize
namespace Go.Proofs.Ytdojfkiocojpgaa

theorem digs_mono : ∀ (k n m : Nat), m ≤ k → n ≤ m → (digs n).length ≤ (digs m).length := by
  intro k
  induction k with
  | zero => intro n m h1 h2; rw [show n = m by omega]; exact Nat.le_refl _
  | succ k ih =>
    intro n m h1 h2
    by_cases hn : n < 128
    · rw [digs_lo hn]
      by_cases hm : m < 128
      · rw [digs_lo hm]; simp
      · rw [digs_hi hm]; simp
    · rw [digs_hi hn, digs_hi (show ¬ m < 128 by omega)]
      have := ih (n / 128) (m / 128) (by omega) (by omega)
      simp; omega
theorem size_mono {n m : Int} (h : n ≤ m) (hb : 0 < sizeF m) : sizeF n ≤ sizeF m := by
  unfold sizeF at *
  by_cases hm : 0 ≤ m ∧ m ≤ 4611686018427387903
  · rw [if_pos hm] at *
    by_cases hn : 0 ≤ n ∧ n ≤ 4611686018427387903
    · rw [if_pos hn]
      have := digs_mono m.toNat n.toNat m.toNat (Nat.le_refl _) (by omega)
      omega
    · rw [if_neg hn]; omega
  · rw [if_neg hm] at hb; omega

theorem zig_zag {n : Int} (h : (zagF n).2 = 0) : zigF (zagF n).1 = (n, 0) := by
  unfold zagF at *
  by_cases h1 : 0 ≤ n ∧ n ≤ 4611686018427387903
  · rw [if_pos h1] at *
    by_cases h2 : n % 2 = 1
    · rw [if_pos h2]; dsimp only; unfold zigF; rw [if_pos (by omega), if_pos (by omega)]
      exact Prod.ext (by dsimp only; omega) rfl
    · rw [if_neg h2]; dsimp only; unfold zigF; rw [if_pos (by omega), if_neg (by omega)]
      exact Prod.ext (by dsimp only; omega) rfl
  · rw [if_neg h1] at h; cases h
theorem zig_cases (n : Int) : ((zigF n).2 = 1 ∧ (zigF n).1 = 0) ∨ ((zigF n).2 = 0 ∧ 0 ≤ (zigF n).1 ∧ zagF (zigF n).1 = (n, 0)) := by
  unfold zigF
  by_cases h1 : -2305843009213693952 ≤ n ∧ n ≤ 2305843009213693951
  · right
    rw [if_pos h1]
    by_cases h2 : n < 0
    · rw [if_pos h2]; dsimp only; unfold zagF; rw [if_pos (by omega), if_pos (by omega)]
      exact ⟨rfl, by omega, Prod.ext (by dsimp only; omega) rfl⟩
    · rw [if_neg h2]; dsimp only; unfold zagF; rw [if_pos (by omega), if_neg (by omega)]
      exact ⟨rfl, by omega, Prod.ext (by dsimp only; omega) rfl⟩
  · left
    rw [if_neg h1]
    exact ⟨rfl, rfl⟩
theorem zig_inj {n m : Int} (h1 : (zigF n).2 = 0) (h2 : (zigF m).2 = 0) : ((zigF n).1 = (zigF m).1 ↔ n = m) ∧ (0 ≤ n → 0 ≤ m → ((zigF n).1 < (zigF m).1 ↔ n < m)) := by
  unfold zigF at *
  by_cases a : -2305843009213693952 ≤ n ∧ n ≤ 2305843009213693951
  · by_cases b : -2305843009213693952 ≤ m ∧ m ≤ 2305843009213693951
    · rw [if_pos a, if_pos b]
      by_cases c : n < 0 <;> by_cases d : m < 0 <;> simp only [c, d, if_true, if_false] <;> omega
    · rw [if_neg b] at h2; cases h2
  · rw [if_neg a] at h1; cases h1
end Go.Proofs.Ytdojfkiocojpgaa
