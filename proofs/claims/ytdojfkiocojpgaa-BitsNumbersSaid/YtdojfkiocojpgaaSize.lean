/-
  The walks of Size, of the reference's Size, and of the laws' own 'awake'. Conditions: none.
-/
import Derived.Test.YtdojfkiocojpgaaRefRead
namespace Go.Proofs.Ytdojfkiocojpgaa
set_option linter.unusedVariables false
set_option linter.unusedSimpArgs false
open Go.RowKit

/-- how many digits a number has; 0: there is none -/
def sizeF (n : Int) : Int := if 0 ≤ n ∧ n ≤ 4611686018427387903 then (digs n.toNat).length else 0
theorem ret_one {a b : Int} (h : a = b) : Ending.returned (.int .i64 a) = .returned (.int .i64 b) := by rw [h]

set_option maxRecDepth 100000 in
theorem size_any (n : Int) (w : World) :
    Calls Try.prog 14 #[.int .i64 n] w fun e w' => e = .returned (.int .i64 (sizeF n)) ∧ w = w' := by
  by_cases h : n < 0 ∨ 4611686018427387903 < n
  · have e : sizeF n = 0 := by unfold sizeF; rw [if_neg (by omega)]
    rw [e]; clear e
    have hm := fun wx => may_no n wx h
    clear h
    go_enter Try.func14, Try.ntmps14
    go_wp2_with (go_at_call 25; refine (hm _).mono ?_; rintro e w' ⟨rfl, rfl⟩)
    go_ret
    exact ⟨rfl, rfl⟩
  · have hm := fun wx => may_yes n wx (by omega) (by omega)
    obtain ⟨N, rfl⟩ := Int.eq_ofNat_of_zero_le (show 0 ≤ n by omega)
    have e : sizeF N = (digs N).length := by unfold sizeF; rw [if_pos (by omega)]; simp
    have hl := (digs_len9 (n := N) (by omega)).2
    have E := Lib.hid e
    clear h e
    go_enter Try.func14, Try.ntmps14
    go_wp2_with (go_at_call 25; refine (hm _).mono ?_; rintro e w' ⟨rfl, rfl⟩)
    clear hm
    go_loopg [0, 3] N (fun gk v0 v3 wr => ∃ (m k : Nat), v0 = .int .i64 m ∧ v3 = .int .i64 k ∧ m ≤ gk ∧ Hid ((digs N).length = k + (if m = 0 then 0 else (digs m).length)) ∧ w = wr)
    case atStart =>
      refine ⟨N / 128, 1, by go_num, rfl, by omega, ?_, rfl⟩
      show _ = _
      by_cases h1 : N < 128
      · rw [digs_lo h1, if_pos (by omega)]; rfl
      · rw [digs_hi h1, if_neg (by omega)]; simp; omega
    case round =>
      obtain ⟨m, k, rfl, rfl, hm, hd, rfl⟩ := hrel
      have hk : k ≤ 9 := by have := hd.out; omega
      have hd' := hd.out
      by_cases h0 : m = 0
      · have h00 : (m : Int) ≤ 0 := by omega
        have HF := Lib.hid (show (digs N).length = k by rw [hd', if_pos h0]; rfl)
        clear h0 hd' hd
        go_wp2
        go_ret
        exact ⟨ret_one (by rw [E.out, HF.out]), rfl⟩
      · have h00 : (1 : Int) ≤ m := by omega
        rw [if_neg h0] at hd'
        have HF : Hid ((digs N).length = (k + 1) + (if m / 128 = 0 then 0 else (digs (m / 128)).length)) := by
          show _ = _
          rw [hd']
          by_cases h1 : m < 128
          · rw [digs_lo h1, if_pos (by omega)]; rfl
          · rw [digs_hi h1, if_neg (by omega)]; simp; omega
        clear h0 hd' hd
        go_wp2
        go_roundg (m / 128)
        case measure => omega
        case rel => exact ⟨m / 128, k + 1, by go_num, by go_num, Nat.le_refl _, HF, rfl⟩

set_option maxRecDepth 100000 in
theorem refSize_any (n : Int) (w : World) :
    Calls Try.prog 16 #[.int .i64 n] w fun e w' => e = .returned (.int .i64 (sizeF n)) ∧ w = w' := by
  by_cases h1 : n < 0
  · have e : sizeF n = 0 := by unfold sizeF; rw [if_neg (by omega)]
    rw [e]; clear e
    go_enter Try.func16, Try.ntmps16
    go_wp2
    go_ret
    exact ⟨rfl, rfl⟩
  · by_cases h2 : 4611686018427387903 < n
    · have e : sizeF n = 0 := by unfold sizeF; rw [if_neg (by omega)]
      rw [e]; clear e
      go_enter Try.func16, Try.ntmps16
      go_wp2
      go_ret
      exact ⟨rfl, rfl⟩
    · obtain ⟨N, rfl⟩ := Int.eq_ofNat_of_zero_le (show 0 ≤ n by omega)
      have e : sizeF N = (digs N).length := by unfold sizeF; rw [if_pos (by omega)]; simp
      have hl := (digs_len9 (n := N) (by omega)).2
      have hMX : Hid ((N : Int) ≤ 4611686018427387903) := by show _ ≤ _; omega
      have E := Lib.hid e
      clear e
      have q1 : decide ((N : Int) < 0) = false := decide_eq_false h1
      have q2 : decide ((4611686018427387903 : Int) < N) = false := decide_eq_false h2
      clear h1 h2
      go_enter Try.func16, Try.ntmps16
      go_wp2
      clear q1 q2
      go_loopg [0, 3] N (fun gk v0 v3 wr => ∃ (m k : Nat), v0 = .int .i64 m ∧ v3 = .int .i64 k ∧ m ≤ gk ∧ Hid ((m : Int) ≤ 4611686018427387903) ∧ Hid ((digs N).length + 1 = k + (digs m).length) ∧ w = wr)
      case atStart => exact ⟨N, 1, rfl, rfl, Nat.le_refl _, hMX, by show _ = _; omega, rfl⟩
      case round =>
        obtain ⟨m, k, rfl, rfl, hm, hM, hd, rfl⟩ := hrel
        have hk : k ≤ 10 := by have := hd.out; omega
        have hd' := hd.out
        have hM2 := hM.out
        by_cases h0 : m < 128
        · have h00 : (m : Int) < 128 := by omega
          have HF := Lib.hid (show (digs N).length = k by rw [digs_lo h0] at hd'; simpa using hd')
          clear h0 hd' hd
          go_wp2
          go_ret
          exact ⟨ret_one (by rw [E.out, HF.out]), rfl⟩
        · have h00 : (128 : Int) ≤ m := by omega
          have HF : Hid ((digs N).length + 1 = (k + 1) + (digs (m / 128)).length) := by
            show _ = _
            rw [hd', digs_hi h0]; simp; omega
          clear h0 hd' hd
          go_wp2
          go_roundg (m / 128)
          case measure => omega
          case rel => exact ⟨m / 128, k + 1, by go_num, by go_num, Nat.le_refl _, by show _ ≤ _; omega, HF, rfl⟩
end Go.Proofs.Ytdojfkiocojpgaa
