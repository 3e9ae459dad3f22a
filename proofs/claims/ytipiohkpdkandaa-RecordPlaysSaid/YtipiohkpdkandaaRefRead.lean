/-
  The walk of reeveref01.Read: it computes 'readF'. Conditions: none.
-/
import Derived.Test.YtipiohkpdkandaaRead
namespace Go.Proofs.Ytipiohkpdkandaa
set_option linter.unusedVariables false
set_option linter.unusedSimpArgs false
open Go.RowKit

set_option maxRecDepth 100000 in
set_option maxHeartbeats 2000000 in
theorem refRead_any (A : Option Addr) (n c : Nat) (l : List Int) (at_ : Int) (w : World) (hr : Rd w A n (nums .u8 l)) (hb : Bytes l) (hn : n ≤ 140737488355328) :
    Calls Try.prog 80 #[.slice A n c, .int .i64 at_] w fun e w' => e = .returned (.tuple #[.int .i64 (readF l at_).1, .int .i64 (readF l at_).2.1, .int .i64 (readF l at_).2.2]) ∧ w = w' := by
  have hl : l.length = n := by have := hr.len; rwa [nums_length] at this
  by_cases h1 : at_ < 0
  · have e : readF l at_ = (0, 0, 1) := readF_out (by omega)
    rw [e]; clear e
    go_enter Try.func80, Try.ntmps80
    go_wp2
    go_ret3
    exact ⟨rfl, rfl⟩
  · by_cases h2 : (n : Int) < at_
    · have e : readF l at_ = (0, 0, 1) := readF_out (by omega)
      rw [e]; clear e
      go_enter Try.func80, Try.ntmps80
      go_wp2
      go_ret3
      exact ⟨rfl, rfl⟩
    · obtain ⟨p, rfl⟩ := Int.eq_ofNat_of_zero_le (show 0 ≤ at_ by omega)
      have q1 : decide ((p : Int) < 0) = false := decide_eq_false (by omega)
      have q2 : decide (n < p) = false := decide_eq_false (by omega)
      go_enter Try.func80, Try.ntmps80
      go_wp2
      go_loopg [7, 8, 9] (9 : Nat) (fun gk v7 v8 v9 wr => ∃ (N W : Int) (i : Nat), v7 = .int .i64 N ∧ v8 = .int .i64 W ∧ v9 = .int .i64 i ∧ gk + i = 9 ∧ p + i ≤ n ∧ Hid (i ≤ 8) ∧ Hid (0 ≤ N ∧ N < 128 ^ i ∧ W = 128 ^ i) ∧ Hid (dec (l.drop p) 0 0 = dec (l.drop (p + i)) i N) ∧ w = wr)
      case atStart => exact ⟨0, 1, 0, rfl, rfl, rfl, rfl, by omega, Nat.zero_le _, ⟨by omega, by simp, by simp⟩, rfl, rfl⟩
      case round =>
        obtain ⟨N, W, i, rfl, rfl, rfl, hm, hpi, hi, hN, hd, rfl⟩ := hrel
        have hi8 := hi.out
        by_cases hend : p + i = n
        · have hend' : ((i : Int) = n - p) := by omega
          have hend2 : i = n - p := by omega
          have E := Lib.hid hend
          clear hend
          have e : readF l p = (0, 0, 10) := by
            rw [readF_of (by omega) (hd.out.trans (by rw [List.drop_eq_nil_of_le (by omega)]))]
            rfl
          have E2 := Lib.hid e
          have hq : ((i : Int) == n - p) = true := by simpa using hend'
          clear e hend' hend2
          go_wp2
          go_ret3
          rw [E2.out]
          exact ⟨rfl, rfl⟩
        · have hlt : p + i < n := by omega
          obtain ⟨x, hx⟩ : ∃ x, l[p + i]? = some x := ⟨l[p + i], by simp⟩
          obtain ⟨ad, rfl, hc⟩ := hr.at (i := p + i) (u := .int .u8 x) (by rw [nums_get, hx]; rfl)
          have hx2 := hb x (List.mem_of_getElem? hx)
          have hdrop : l.drop (p + i) = x :: l.drop (p + i + 1) := by
            obtain ⟨hlt2, hx3⟩ := List.getElem?_eq_some_iff.1 hx
            rw [List.drop_eq_getElem_cons hlt2, hx3]
          have hd2 := hd.out
          rw [hdrop] at hd2
          have hN0 := hN.out.1
          have hN1 := hN.out.2.1
          have hW := hN.out.2.2
          have hpow : (128 : Int) ^ (i + 1) = 128 * 128 ^ i := by rw [Int.pow_succ]; omega
          have hpos : (0 : Int) < 128 ^ i := Int.pow_pos (by decide)
          have hp8 : (128 : Int) ^ i ≤ 128 ^ 8 := by
            have := Nat.pow_le_pow_right (n := 128) (by decide) hi8
            exact_mod_cast this
          have hq : ((i : Int) == n - p) = false := by simp; omega
          clear hr hx hdrop
          by_cases hz : x = 0 ∧ 0 < i
          · have e : readF l p = (0, 0, 11) := by
              rw [readF_of (by omega) (hd2.trans (dec_zero hz))]; rfl
            have E := Lib.hid e
            obtain ⟨hz1, hz2⟩ := hz
            have hx0 : x ≤ 0 := by omega
            clear hz1 hd2 hpow hpos hN0 hN1 hd hN hi e hW hp8
            go_wp2
            go_ret3
            rw [E.out]
            exact ⟨rfl, rfl⟩
          · by_cases h9 : i = 8 ∧ 64 ≤ x
            · have e : readF l p = (0, 0, 11) := by
                rw [readF_of (by omega) (hd2.trans (dec_nine hz h9))]; rfl
              have E := Lib.hid e
              obtain ⟨h91, h92⟩ := h9
              have h93 : 8 ≤ i := by omega
              clear h91 hd2 hpow hpos hN0 hN1 hd hN hi e hz hW hp8
              go_wp2
              go_ret3
              rw [E.out]
              exact ⟨rfl, rfl⟩
            · have hz' : x = 0 → i = 0 := fun h => by omega
              by_cases h8 : x < 128
              · have hx7 : x % 128 = x := by omega
                obtain ⟨M, hM⟩ : ∃ M, M = x * 128 ^ i := ⟨_, rfl⟩
                have hm0 : 0 ≤ M := by rw [hM]; exact Int.mul_nonneg hx2.1 (by omega)
                have hb3 : N + M ≤ 4611686018427387903 := by
                  rw [hM]
                  by_cases h88 : i = 8
                  · subst h88; omega
                  · have hp7 : (128 : Int) ^ i ≤ 128 ^ 7 := by
                      have := Nat.pow_le_pow_right (n := 128) (by decide) (show i ≤ 7 by omega)
                      exact_mod_cast this
                    have : x * 128 ^ i ≤ 127 * 128 ^ 7 := Int.mul_le_mul (by omega) hp7 (by omega) (by omega)
                    omega
                have hwr : wrap64 (x * W) = M := by rw [hW, ← hM]; exact IntWalk.wrap64_in M ⟨by omega, by omega⟩
                have hwr2 : wrap64 (x % 128 * W) = M := by rw [hx7]; exact hwr
                have e : readF l p = (N + M, (p : Int) + (i + 1 : Nat), 0) := by
                  rw [readF_of (by omega) (hd2.trans (dec_last hz h9 h8)), hM]; rfl
                have E := Lib.hid e
                have HW := Lib.hid hW
                have H9 := Lib.hid h9
                have HM : Hid (x = 0 → M = 0) := fun h => by rw [hM, h]; simp
                clear hM hd2 hpow hpos hN1 hd hN hi e hz h9 hx7 hW hp8
                by_cases hx0 : x = 0
                · have hi0 : i ≤ 0 := by have := hz' hx0; omega
                  have hx0' : x ≤ 0 := by omega
                  have HM0 := Lib.hid (HM.out hx0)
                  clear hz' hx0
                  go_wp2
                  all_goals go_ret3
                  all_goals rw [E.out]
                  all_goals exact ⟨ret_three (by have := HM0.out; dsimp only; omega) (by dsimp only; omega) rfl, rfl⟩
                · clear hz'
                  by_cases hi88 : 8 ≤ i
                  · have hx64 : x < 64 := by have := H9.out; omega
                    go_wp2
                    all_goals go_ret3
                    all_goals rw [E.out]
                    all_goals exact ⟨ret_three rfl (by dsimp only; omega) rfl, rfl⟩
                  · go_wp2
                    all_goals go_ret3
                    all_goals rw [E.out]
                    all_goals exact ⟨ret_three rfl (by dsimp only; omega) rfl, rfl⟩
              · have hx7 : x % 128 = x - 128 := by omega
                have hi7 : i + 1 ≤ 8 := by omega
                have hp7 : (128 : Int) ^ i ≤ 128 ^ 7 := by
                  have := Nat.pow_le_pow_right (n := 128) (by decide) (show i ≤ 7 by omega)
                  exact_mod_cast this
                obtain ⟨M, hM⟩ : ∃ M, M = (x - 128) * 128 ^ i := ⟨_, rfl⟩
                have hm0 : 0 ≤ M := by rw [hM]; exact Int.mul_nonneg (by omega) (by omega)
                have hm1 : M ≤ 127 * 128 ^ i := by rw [hM]; exact Int.mul_le_mul_of_nonneg_right (by omega) (by omega)
                have hxd : dec (l.drop p) 0 0 = dec (l.drop (p + (i + 1))) (i + 1) (N + M) := by
                  rw [hd2, dec_more hz h9 h8, hM]; rfl
                have hNb : 0 ≤ N + M ∧ N + M < 128 ^ (i + 1) ∧ 128 * W = 128 ^ (i + 1) := by
                  rw [hpow, hW]
                  omega
                have hwr : wrap64 (x % 128 * W) = M := by rw [hx7, hW, ← hM]; exact IntWalk.wrap64_in M ⟨by omega, by omega⟩
                have hWb : 0 ≤ W ∧ W ≤ 128 ^ 7 := by rw [hW]; omega
                obtain ⟨hWb0, hWb1⟩ := hWb
                have hs0 : N + M ≤ 9223372036854775807 := by omega
                have HH := Lib.hid (And.intro hxd hNb)
                clear hM hd2 hpow hpos hN1 hd hN hi hz hx7 hxd hNb hW hp8 hp7 hm1
                clear h9 hz'
                go_wp2
                go_roundg (8 - i)
                case measure => omega
                case rel => exact ⟨N + M, 128 * W, i + 1, rfl, rfl, by go_num, by omega, by omega, hi7, HH.out.2, HH.out.1, rfl⟩
end Go.Proofs.Ytipiohkpdkandaa
