/-
  Numbers as bytes, plainly: what Number writes ('digs'), what Read reads ('dec'), folding ('zigF', 'zagF'). No program in sight. Conditions: none.
-/
import Derived.Test.YtipiohkpdkandaaLib
namespace Go.Proofs.Ytipiohkpdkandaa
set_option linter.unusedVariables false
set_option linter.unusedSimpArgs false

def digs (n : Nat) : List Int := if n < 128 then [(n : Int)] else ((n % 128 + 128 : Nat) : Int) :: digs (n / 128)
termination_by n
decreasing_by omega

theorem digs_lo {n : Nat} (h : n < 128) : digs n = [(n : Int)] := by rw [digs, if_pos h]
theorem digs_hi {n : Nat} (h : ¬ n < 128) : digs n = ((n % 128 + 128 : Nat) : Int) :: digs (n / 128) := by rw [digs, if_neg h]
theorem digs_len (k : Nat) : ∀ n, n < 128 ^ (k + 1) → 1 ≤ (digs n).length ∧ (digs n).length ≤ k + 1 := by
  induction k with
  | zero => intro n h; rw [digs_lo (by omega)]; simp
  | succ k ih =>
    intro n h
    by_cases h1 : n < 128
    · rw [digs_lo h1]; simp
    · rw [digs_hi h1]
      have := ih (n / 128) (by rw [Nat.div_lt_iff_lt_mul (by decide)]; rw [Nat.pow_succ] at h; exact h)
      simp; omega
theorem digs_len9 {n : Nat} (h : n ≤ 4611686018427387903) : 1 ≤ (digs n).length ∧ (digs n).length ≤ 9 := digs_len 8 n (by omega)

theorem or_more (m : Nat) : bits BinOp.or .u8 ((m : Int) % 128) 128 = ((m % 128 + 128 : Nat) : Int) := by
  have h := u8_or_nat (m % 128) 128 (by omega) (by omega)
  rw [Nat.or_comm, nat_join 7 128 (m % 128) (by decide) (by omega)] at h
  have e : ((m % 128 : Nat) : Int) = (m : Int) % 128 := by omega
  rw [e] at h
  rw [Nat.add_comm]
  exact h

def zigF (n : Int) : Int × Int := if -2305843009213693952 ≤ n ∧ n ≤ 2305843009213693951 then (if n < 0 then -2 * n - 1 else 2 * n, 0) else (0, 1)
def zagF (n : Int) : Int × Int := if 0 ≤ n ∧ n ≤ 4611686018427387903 then (if n % 2 = 1 then -(n / 2) - 1 else n / 2, 0) else (0, 1)

/-- What Read reads from some bytes on: (error, number, how many bytes); i bytes are behind us, n is what they make. -/
def dec : List Int → Nat → Int → Int × Int × Nat
  | [], _, _ => (10, 0, 0)
  | c :: l, i, n =>
    if c = 0 ∧ 0 < i then (11, 0, 0)
    else if i = 8 ∧ 64 ≤ c then (11, 0, 0)
    else if c < 128 then (0, n + c * 128 ^ i, i + 1)
    else dec l (i + 1) (n + (c - 128) * 128 ^ i)
def readF (l : List Int) (at_ : Int) : Int × Int × Int :=
  if at_ < 0 ∨ (l.length : Int) < at_ then (0, 0, 1)
  else match dec (l.drop at_.toNat) 0 0 with
    | (e, n, k) => if e = 0 then (n, at_ + k, 0) else (0, 0, e)
theorem readF_out {l : List Int} {a : Int} (h : a < 0 ∨ (l.length : Int) < a) : readF l a = (0, 0, 1) := by unfold readF; rw [if_pos h]
theorem readF_of {l : List Int} {p : Nat} {e n : Int} {k : Nat} (hp : p ≤ l.length) (h : dec (l.drop p) 0 0 = (e, n, k)) : readF l p = if e = 0 then (n, (p : Int) + k, 0) else (0, 0, e) := by
  unfold readF
  rw [if_neg (by omega), show (p : Int).toNat = p by simp, h]
theorem dec_zero {x : Int} {i : Nat} {N : Int} {l : List Int} (h : x = 0 ∧ 0 < i) : dec (x :: l) i N = (11, 0, 0) := by unfold dec; rw [if_pos h]
theorem dec_nine {x : Int} {i : Nat} {N : Int} {l : List Int} (hz : ¬ (x = 0 ∧ 0 < i)) (h : i = 8 ∧ 64 ≤ x) : dec (x :: l) i N = (11, 0, 0) := by unfold dec; rw [if_neg hz, if_pos h]
theorem dec_last {x : Int} {i : Nat} {N : Int} {l : List Int} (hz : ¬ (x = 0 ∧ 0 < i)) (h : ¬ (i = 8 ∧ 64 ≤ x)) (h8 : x < 128) : dec (x :: l) i N = (0, N + x * 128 ^ i, i + 1) := by unfold dec; rw [if_neg hz, if_neg h, if_pos h8]
theorem dec_more {x : Int} {i : Nat} {N : Int} {l : List Int} (hz : ¬ (x = 0 ∧ 0 < i)) (h : ¬ (i = 8 ∧ 64 ≤ x)) (h8 : ¬ x < 128) : dec (x :: l) i N = dec l (i + 1) (N + (x - 128) * 128 ^ i) := by rw [dec, if_neg hz, if_neg h, if_neg h8]
end Go.Proofs.Ytipiohkpdkandaa
