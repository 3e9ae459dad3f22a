/-
  What is read of some bytes are the bytes of the number that is answered, and the other way. Plain. Conditions: none.
-/
import Derived.Test.YtipiohkpdkandaaDig
namespace Go.Proofs.Ytipiohkpdkandaa
set_option linter.unusedVariables false
set_option linter.unusedSimpArgs false

def Bytes (l : List Int) : Prop := ∀ x ∈ l, 0 ≤ x ∧ x ≤ 255

/-- An answer that is no number bears nothing. -/
theorem dec_bad : ∀ (l : List Int) (i : Nat) (N : Int), (dec l i N).1 ≠ 0 → dec l i N = ((dec l i N).1, 0, 0) ∧ ((dec l i N).1 = 10 ∨ (dec l i N).1 = 11)
  | [], i, N, _ => ⟨rfl, .inl rfl⟩
  | c :: l, i, N, h => by
    by_cases hz : c = 0 ∧ 0 < i
    · rw [dec_zero hz]; exact ⟨rfl, .inr rfl⟩
    · by_cases h9 : i = 8 ∧ 64 ≤ c
      · rw [dec_nine hz h9]; exact ⟨rfl, .inr rfl⟩
      · by_cases h8 : c < 128
        · rw [dec_last hz h9 h8] at h; exact absurd rfl h
        · rw [dec_more hz h9 h8] at h ⊢; exact dec_bad l _ _ h

/-- What is read: the bytes of a number q, from there on. -/
theorem dec_ok : ∀ (l : List Int) (i : Nat) (N M : Int) (k : Nat), Bytes l → dec l i N = (0, M, k) →
    ∃ q : Nat, M = N + q * 128 ^ i ∧ i < k ∧ k - i ≤ l.length ∧ l.take (k - i) = digs q ∧ (0 < i → 0 < q)
  | [], i, N, M, k, _, h => by simp [dec] at h
  | c :: l, i, N, M, k, hb, h => by
    have hc := hb c List.mem_cons_self
    by_cases hz : c = 0 ∧ 0 < i
    · rw [dec_zero hz] at h; simp at h
    · by_cases h9 : i = 8 ∧ 64 ≤ c
      · rw [dec_nine hz h9] at h; simp at h
      · by_cases h8 : c < 128
        · rw [dec_last hz h9 h8] at h
          simp only [Prod.mk.injEq, true_and] at h
          obtain ⟨rfl, rfl⟩ := h
          obtain ⟨q, rfl⟩ := Int.eq_ofNat_of_zero_le hc.1
          refine ⟨q, rfl, by omega, by simp, ?_, fun hi => by omega⟩
          rw [show i + 1 - i = 1 by omega, digs_lo (by omega)]; rfl
        · rw [dec_more hz h9 h8] at h
          obtain ⟨q, h1, h2, h3, h4, h5⟩ := dec_ok l (i + 1) _ M k (fun x hx => hb x (List.mem_cons_of_mem _ hx)) h
          obtain ⟨d, hd⟩ := Int.eq_ofNat_of_zero_le (show 0 ≤ c - 128 by omega)
          refine ⟨d + 128 * q, ?_, by omega, by simp; omega, ?_, fun _ => by have := h5 (by omega); omega⟩
          · rw [h1, hd, Int.pow_succ]
            have e1 : ((d + 128 * q : Nat) : Int) = (d : Int) + 128 * q := by omega
            rw [e1, Int.add_mul, Int.add_assoc]
            congr 2
            rw [Int.mul_comm (128 ^ i) 128, ← Int.mul_assoc, Int.mul_comm (q : Int) 128]
          · have hq := h5 (by omega)
            rw [digs_hi (by omega), show k - i = (k - (i + 1)) + 1 by omega, List.take_succ_cons, h4]
            congr 1
            · omega
            · congr 1; omega

theorem dec_le : ∀ (l : List Int) (i : Nat) (N M : Int) (k : Nat), Bytes l → i ≤ 8 → 0 ≤ N → N < 128 ^ i → dec l i N = (0, M, k) → 0 ≤ M ∧ M ≤ 4611686018427387903 ∧ k ≤ 9
  | [], i, N, M, k, _, _, _, _, h => by simp [dec] at h
  | c :: l, i, N, M, k, hb, hi, h0, h1, h => by
    have hc := hb c List.mem_cons_self
    have hpos : (0 : Int) < 128 ^ i := Int.pow_pos (by decide)
    by_cases hz : c = 0 ∧ 0 < i
    · rw [dec_zero hz] at h; simp at h
    · by_cases h9 : i = 8 ∧ 64 ≤ c
      · rw [dec_nine hz h9] at h; simp at h
      · by_cases h8 : c < 128
        · rw [dec_last hz h9 h8] at h
          simp only [Prod.mk.injEq, true_and] at h
          obtain ⟨rfl, rfl⟩ := h
          have hm0 : 0 ≤ c * 128 ^ i := Int.mul_nonneg hc.1 (by omega)
          refine ⟨by omega, ?_, by omega⟩
          by_cases h88 : i = 8
          · subst h88; omega
          · have hp7 : (128 : Int) ^ i ≤ 128 ^ 7 := by
              have := Nat.pow_le_pow_right (n := 128) (by decide) (show i ≤ 7 by omega)
              exact_mod_cast this
            have : c * 128 ^ i ≤ 127 * 128 ^ 7 := Int.mul_le_mul (by omega) hp7 (by omega) (by omega)
            omega
        · rw [dec_more hz h9 h8] at h
          have hm0 : 0 ≤ (c - 128) * 128 ^ i := Int.mul_nonneg (by omega) (by omega)
          have hm1 : (c - 128) * 128 ^ i ≤ 127 * 128 ^ i := Int.mul_le_mul_of_nonneg_right (by omega) (by omega)
          have hpow : (128 : Int) ^ (i + 1) = 128 * 128 ^ i := by rw [Int.pow_succ]; omega
          exact dec_le l (i + 1) _ M k (fun x hx => hb x (List.mem_cons_of_mem _ hx)) (by omega) (by omega) (by omega) h

/-- readF's answers: refused; no number; a number, whose bytes stand there. -/
theorem readF_cases {l : List Int} (hb : Bytes l) (a : Int) :
    (∃ e, (e == 0) = false ∧ (e != 0) = true ∧ readF l a = (0, 0, e)) ∨
    ∃ (p q k : Nat), a = p ∧ q ≤ 4611686018427387903 ∧ k = (digs q).length ∧ 1 ≤ k ∧ p + k ≤ l.length ∧ readF l a = ((q : Int), (p : Int) + k, 0) ∧ (l.drop p).take k = digs q := by
  by_cases h1 : a < 0 ∨ (l.length : Int) < a
  · exact .inl ⟨1, rfl, rfl, readF_out h1⟩
  · obtain ⟨p, rfl⟩ := Int.eq_ofNat_of_zero_le (show 0 ≤ a by omega)
    have hbd : Bytes (l.drop p) := fun x hx => hb x (List.mem_of_mem_drop hx)
    by_cases h0 : (dec (l.drop p) 0 0).1 = 0
    · right
      obtain ⟨M, k, hd⟩ : ∃ M k, dec (l.drop p) 0 0 = (0, M, k) := ⟨_, _, Prod.ext h0 (Prod.ext rfl rfl)⟩
      obtain ⟨q, e1, e2, e3, e4, _⟩ := dec_ok _ _ _ _ _ hbd hd
      obtain ⟨b1, b2, b3⟩ := dec_le _ _ _ _ _ hbd (by omega) (by omega) (by simp) hd
      have hM : M = q := by rw [e1]; simp
      subst hM
      have hk : (digs q).length = k := by rw [← e4]; simp at e3 ⊢; omega
      refine ⟨p, q, k, rfl, by omega, hk.symm, by omega, by simp at e3; omega, ?_, by simpa using e4⟩
      rw [readF_of (by omega) hd, if_pos rfl]
    · left
      obtain ⟨h2, h3⟩ := dec_bad _ _ _ h0
      refine ⟨(dec (l.drop p) 0 0).1, by simpa using h0, by simpa using h0, ?_⟩
      rw [readF_of (by omega) h2, if_neg h0]

theorem digs_bytes : ∀ (k n : Nat), n ≤ k → Bytes (digs n) := by
  intro k
  induction k with
  | zero => intro n h; rw [digs_lo (by omega)]; intro x hx; simp at hx; omega
  | succ k ih =>
    intro n h
    by_cases h1 : n < 128
    · rw [digs_lo h1]; intro x hx; simp at hx; omega
    · rw [digs_hi h1]
      intro x hx
      rcases List.mem_cons.1 hx with rfl | hx
      · omega
      · exact ih (n / 128) (by omega) x hx

/-- A number's bytes, from the i-th on, whatever stands behind. -/
theorem dec_digs : ∀ (k q : Nat) (i : Nat) (N : Int) (r : List Int), q ≤ k → (0 < i → 0 < q) → i ≤ 8 → q * 128 ^ i ≤ 4611686018427387903 → dec (digs q ++ r) i N = (0, N + q * 128 ^ i, i + (digs q).length) := by
  intro k
  induction k with
  | zero =>
    intro q i N r hq h0 hi hb
    obtain rfl : q = 0 := by omega
    rw [digs_lo (by omega)]
    show dec (0 :: r) i N = _
    rw [dec_last (by omega) (by omega) (by omega)]
    simp
  | succ k ih =>
    intro q i N r hq h0 hi hb
    by_cases h1 : q < 128
    · rw [digs_lo h1]
      show dec ((q : Int) :: r) i N = _
      rw [dec_last (by omega) (by rintro ⟨rfl, h64⟩; omega) (by omega)]
      simp
    · rw [digs_hi h1]
      show dec (((q % 128 + 128 : Nat) : Int) :: (digs (q / 128) ++ r)) i N = _
      have hi7 : i ≤ 7 := by
        by_cases h8 : i = 8
        · subst h8; omega
        · omega
      have hdiv : q / 128 * 128 ^ (i + 1) ≤ q * 128 ^ i := by
        rw [Nat.pow_succ, Nat.mul_comm (128 ^ i) 128, ← Nat.mul_assoc]
        exact Nat.mul_le_mul_right _ (by omega)
      rw [dec_more (by omega) (by omega) (by omega), ih (q / 128) (i + 1) _ r (by omega) (by omega) (by omega) (by omega)]
      refine Prod.ext rfl (Prod.ext ?_ (by simp; omega))
      dsimp only
      rw [Int.pow_succ, show (((q % 128 + 128 : Nat) : Int) - 128) = ((q % 128 : Nat) : Int) by omega, Int.mul_comm (128 ^ i) 128, ← Int.mul_assoc, Int.add_assoc, ← Int.add_mul]
      congr 2
      omega
/-- None of a number's beginnings is read. -/
theorem dec_short : ∀ (k q : Nat) (i : Nat) (N : Int) (m : Nat), q ≤ k → (0 < i → 0 < q) → i ≤ 8 → q * 128 ^ i ≤ 4611686018427387903 → m < (digs q).length → dec ((digs q).take m) i N = (10, 0, 0) := by
  intro k
  induction k with
  | zero =>
    intro q i N m hq h0 hi hb hm
    obtain rfl : q = 0 := by omega
    rw [digs_lo (by omega)] at hm ⊢
    obtain rfl : m = 0 := by simpa using hm
    rfl
  | succ k ih =>
    intro q i N m hq h0 hi hb hm
    by_cases h1 : q < 128
    · rw [digs_lo h1] at hm ⊢
      obtain rfl : m = 0 := by simpa using hm
      rfl
    · rw [digs_hi h1] at hm ⊢
      cases m with
      | zero => rfl
      | succ m =>
        rw [List.take_succ_cons]
        have hi7 : i ≤ 7 := by
          by_cases h8 : i = 8
          · subst h8; omega
          · omega
        have hdiv : q / 128 * 128 ^ (i + 1) ≤ q * 128 ^ i := by
          rw [Nat.pow_succ, Nat.mul_comm (128 ^ i) 128, ← Nat.mul_assoc]
          exact Nat.mul_le_mul_right _ (by omega)
        rw [dec_more (by omega) (by omega) (by omega)]
        exact ih (q / 128) (i + 1) _ m (by omega) (by omega) (by omega) (by omega) (by simp at hm; omega)
theorem readF_digs {q : Nat} (hq : q ≤ 4611686018427387903) (ahead behind : List Int) : readF (ahead ++ digs q ++ behind) ahead.length = ((q : Int), (ahead.length : Int) + (digs q).length, 0) := by
  have h := dec_digs q q 0 0 behind (Nat.le_refl _) (by omega) (by omega) (by simpa using hq)
  have hd : (ahead ++ digs q ++ behind).drop ahead.length = digs q ++ behind := by rw [List.append_assoc, List.drop_left]
  have h' : dec ((ahead ++ digs q ++ behind).drop ahead.length) 0 0 = (0, (q : Int), (digs q).length) := by rw [hd, h]; simp
  rw [readF_of (by simp) h', if_pos rfl]
theorem readF_short {q : Nat} (hq : q ≤ 4611686018427387903) {m : Nat} (hm : m < (digs q).length) : readF ((digs q).take m) 0 = (0, 0, 10) := by
  have h := dec_short q q 0 0 m (Nat.le_refl _) (by omega) (by omega) (by simpa using hq) hm
  have h' : dec (((digs q).take m).drop 0) 0 0 = (10, 0, 0) := by rw [List.drop_zero]; exact h
  have := readF_of (l := (digs q).take m) (p := 0) (Nat.zero_le _) h'
  rwa [if_neg (by decide)] at this
end Go.Proofs.Ytipiohkpdkandaa
