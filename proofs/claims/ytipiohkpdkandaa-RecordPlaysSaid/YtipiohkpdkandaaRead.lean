/-
  The walk of bits.Read: it computes 'readF'. Conditions: none.
-/
import Derived.Test.YtipiohkpdkandaaBits
import Derived.Test.YtipiohkpdkandaaDecPure
namespace Go.Proofs.Ytipiohkpdkandaa
set_option linter.unusedVariables false
set_option linter.unusedSimpArgs false
open Go.RowKit

theorem or_step (N x : Int) (i : Nat) (hi : i ≤ 8) (h0 : 0 ≤ N) (h1 : N < 128 ^ i) (hx0 : 0 ≤ x) (hx1 : x ≤ 255) :
    bits BinOp.or IntKind.u64 N (IntKind.u64.wrap (x % 128 * 2 ^ (7 * i))) = N + x % 128 * 128 ^ i := by
  have e : (2 : Int) ^ (7 * i) = 128 ^ i := by rw [Int.pow_mul]; rfl
  rw [e]
  obtain ⟨a, rfl⟩ := Int.eq_ofNat_of_zero_le h0
  obtain ⟨y, hy⟩ := Int.eq_ofNat_of_zero_le (show 0 ≤ x % 128 by omega)
  have hy2 : y < 128 := by omega
  rw [hy]
  have hp : 128 ^ i ≤ 128 ^ 8 := Nat.pow_le_pow_right (by decide) hi
  have h1' : a < 128 ^ i := by exact_mod_cast h1
  have hb : y * 128 ^ i ≤ 127 * 128 ^ 8 := Nat.mul_le_mul (by omega) hp
  have e2 : ((y : Nat) : Int) * 128 ^ i = ((y * 128 ^ i : Nat) : Int) := by simp
  rw [e2, IntKind.wrap_u64, Int.emod_eq_of_lt (by omega) (by omega), u64_or_nat a (y * 128 ^ i) (by omega) (by omega)]
  have e3 : (128 : Nat) ^ i = 2 ^ (7 * i) := by rw [Nat.pow_mul]
  rw [Nat.or_comm, nat_join (7 * i) (y * 128 ^ i) a (by rw [e3]; simp) (by rw [← e3]; exact h1')]
  omega

theorem ret_three {a b c d e f : Int} (h1 : a = b) (h2 : c = d) (h3 : e = f) : Ending.returned (.tuple #[.int .i64 a, .int .i64 c, .int .i64 e]) = .returned (.tuple #[.int .i64 b, .int .i64 d, .int .i64 f]) := by rw [h1, h2, h3]

set_option maxRecDepth 100000 in
set_option maxHeartbeats 2000000 in
theorem read_any (A : Option Addr) (n c : Nat) (l : List Int) (at_ : Int) (w : World) (hr : Rd w A n (nums .u8 l)) (hb : Bytes l) (hn : n ≤ 140737488355328) :
    Calls Try.prog 46 #[.slice A n c, .int .i64 at_] w fun e w' => e = .returned (.tuple #[.int .i64 (readF l at_).1, .int .i64 (readF l at_).2.1, .int .i64 (readF l at_).2.2]) ∧ w = w' := by
  have hl : l.length = n := by have := hr.len; rwa [nums_length] at this
  by_cases h1 : at_ < 0
  · have e : readF l at_ = (0, 0, 1) := by unfold readF; rw [if_pos (by omega)]
    rw [e]; clear e
    go_enter Try.func46, Try.ntmps46
    go_wp2
    go_step3
    go_wp2
    first | rw [Exit.noGoto_ret] | skip
    go_ret3
    exact ⟨rfl, rfl⟩
  · by_cases h2 : (n : Int) < at_
    · have e : readF l at_ = (0, 0, 1) := by unfold readF; rw [if_pos (by omega)]
      rw [e]; clear e
      go_enter Try.func46, Try.ntmps46
      go_wp2
      go_step3
      go_wp2
      first | rw [Exit.noGoto_ret] | skip
      go_ret3
      exact ⟨rfl, rfl⟩
    · obtain ⟨p, rfl⟩ := Int.eq_ofNat_of_zero_le (show 0 ≤ at_ by omega)
      have q1 : decide ((p : Int) < 0) = false := decide_eq_false (by omega)
      have q2 : decide (n < p) = false := decide_eq_false (by omega)
      go_enter Try.func46, Try.ntmps46
      go_wp2
      go_step3
      go_wp2
      go_step3
      go_wp2
      go_loopg [7, 8] (9 : Nat) (fun gk v7 v8 wr => ∃ (N : Int) (i : Nat), v7 = .int .u64 N ∧ v8 = .int .i64 i ∧ gk + i = 9 ∧ p + i ≤ n ∧ Hid (i ≤ 8) ∧ Hid (0 ≤ N ∧ N < 128 ^ i) ∧ Hid (dec (l.drop p) 0 0 = dec (l.drop (p + i)) i N) ∧ w = wr)
      case atStart => exact ⟨0, 0, rfl, rfl, rfl, by omega, Nat.zero_le _, ⟨by omega, by simp⟩, rfl, rfl⟩
      case round =>
        obtain ⟨N, i, rfl, rfl, hm, hpi, hi, hN, hd, rfl⟩ := hrel
        by_cases hend : p + i = n
        · have hend' : ((p : Int) + i = n) := by omega
          go_wp2
          first | rw [Exit.noGoto_ret] | skip
          go_ret3
          have e : readF l p = (0, 0, 10) := by
            rw [readF_of (by omega) (hd.out.trans (by rw [List.drop_eq_nil_of_le (by omega)]))]
            rfl
          rw [e]
          exact ⟨rfl, rfl⟩
        · have hlt : p + i < n := by omega
          obtain ⟨x, hx⟩ : ∃ x, l[p + i]? = some x := ⟨l[p + i], by simp⟩
          obtain ⟨ad, rfl, hc⟩ := hr.at (i := p + i) (u := .int .u8 x) (by rw [nums_get, hx]; rfl)
          have hx2 := hb x (List.mem_of_getElem? hx)
          have hi8 := hi.out
          have hdrop : l.drop (p + i) = x :: l.drop (p + i + 1) := by
            obtain ⟨hlt2, hx3⟩ := List.getElem?_eq_some_iff.1 hx
            rw [List.drop_eq_getElem_cons hlt2, hx3]
          have hd2 := hd.out
          rw [hdrop] at hd2
          have hor := or_step N x i hi8 hN.out.1 hN.out.2 hx2.1 hx2.2
          have hN0 := hN.out.1
          have hN1 := hN.out.2
          have hpow : (128 : Int) ^ (i + 1) = 128 * 128 ^ i := by rw [Int.pow_succ]; omega
          have hpos : (0 : Int) < 128 ^ i := Int.pow_pos (by decide)
          clear hr hx hdrop
          by_cases hz : x = 0 ∧ 0 < i
          · have e : readF l p = (0, 0, 11) := by
              rw [readF_of (by omega) (hd2.trans (dec_zero hz))]; rfl
            have E := Lib.hid e
            obtain ⟨hz1, hz2⟩ := hz
            have hx0 : x ≤ 0 := by omega
            clear hz1 hd2 hor hpow hpos hN0 hN1 hd hN hi e
            go_wp2
            first | rw [Exit.noGoto_ret] | skip
            go_ret3
            rw [E.out]
            exact ⟨rfl, rfl⟩
          · by_cases h9 : i = 8 ∧ 64 ≤ x
            · have e : readF l p = (0, 0, 11) := by
                rw [readF_of (by omega) (hd2.trans (dec_nine hz h9))]; rfl
              have E := Lib.hid e
              obtain ⟨h91, h92⟩ := h9
              have h93 : 8 ≤ i := by omega
              by_cases h8 : x < 128
              · obtain ⟨N', hN'⟩ : ∃ N', N' = N + x % 128 * 128 ^ i := ⟨_, rfl⟩
                rw [← hN'] at hor
                have hgt : 4611686018427387903 < N' := by subst h91; omega
                have hlt64 : N' < 18446744073709551616 := by subst h91; omega
                clear h91 hN' hd2 hpow hpos hN0 hN1 hd hN hi e hz
                go_wp2
                first | rw [Exit.noGoto_ret] | skip
                go_ret3
                rw [E.out]
                exact ⟨rfl, rfl⟩
              · clear h91 hd2 hor hpow hpos hN0 hN1 hd hN hi e hz
                go_wp2
                first | rw [Exit.noGoto_ret] | skip
                go_ret3
                rw [E.out]
                exact ⟨rfl, rfl⟩
            · obtain ⟨N', hN'⟩ : ∃ N', N' = N + x % 128 * 128 ^ i := ⟨_, rfl⟩
              rw [← hN'] at hor
              have hz' : x = 0 → i = 0 := fun h => by omega
              by_cases h8 : x < 128
              · have hx7 : x % 128 = x := by omega
                have hb3 : 0 ≤ N' ∧ N' ≤ 4611686018427387903 := by
                  rw [hN', hx7]
                  have hm0 : 0 ≤ x * 128 ^ i := Int.mul_nonneg hx2.1 (by omega)
                  refine ⟨by omega, ?_⟩
                  by_cases h88 : i = 8
                  · subst h88; omega
                  · have hp7 : (128 : Int) ^ i ≤ 128 ^ 7 := by
                      have := Nat.pow_le_pow_right (n := 128) (by decide) (show i ≤ 7 by omega)
                      exact_mod_cast this
                    have : x * 128 ^ i ≤ 127 * 128 ^ 7 := Int.mul_le_mul (by omega) hp7 (by omega) (by omega)
                    omega
                have e : readF l p = (N', (p : Int) + (i + 1 : Nat), 0) := by
                  rw [readF_of (by omega) (hd2.trans (dec_last hz h9 h8)), hN', hx7]; rfl
                have E := Lib.hid e
                obtain ⟨hb4, hb5⟩ := hb3
                have hnn : ¬ (i = 8 ∧ 64 ≤ x) := h9
                clear hN' hd2 hpow hpos hN0 hN1 hd hN hi e hz h9 hx7 hnn
                by_cases hx0 : x = 0
                · have hi0 : i ≤ 0 := by have := hz' hx0; omega
                  have hx0' : x ≤ 0 := by omega
                  clear hz' hx0
                  go_wp2
                  all_goals (first | rw [Exit.noGoto_ret] | skip)
                  all_goals go_ret3
                  all_goals rw [E.out]
                  all_goals exact ⟨ret_three rfl (by dsimp only; omega) rfl, rfl⟩
                · clear hz'
                  by_cases hi88 : 8 ≤ i
                  · go_wp2
                    all_goals (first | rw [Exit.noGoto_ret] | skip)
                    all_goals go_ret3
                    all_goals rw [E.out]
                    all_goals exact ⟨ret_three rfl (by dsimp only; omega) rfl, rfl⟩
                  · go_wp2
                    all_goals (first | rw [Exit.noGoto_ret] | skip)
                    all_goals go_ret3
                    all_goals rw [E.out]
                    all_goals exact ⟨ret_three rfl (by dsimp only; omega) rfl, rfl⟩
              · have hx7 : x % 128 = x - 128 := by omega
                have hxd : dec (l.drop p) 0 0 = dec (l.drop (p + (i + 1))) (i + 1) N' := by
                  rw [hd2]
                  simp only [dec]
                  rw [if_neg hz, if_neg h9, if_neg h8, hN', hx7]; rfl
                have hNb : 0 ≤ N' ∧ N' < 128 ^ (i + 1) := by
                  rw [hN', hpow, hx7]
                  have hm0 : 0 ≤ (x - 128) * 128 ^ i := Int.mul_nonneg (by omega) (by omega)
                  have hm1 : (x - 128) * 128 ^ i ≤ 127 * 128 ^ i := Int.mul_le_mul_of_nonneg_right (by omega) (by omega)
                  omega
                have HH := Lib.hid (And.intro hxd hNb)
                clear hN' hd2 hpow hpos hN0 hN1 hd hN hi hz hx7 hxd hNb
                have hi7 : i + 1 ≤ 8 := by omega
                clear h9 hz'
                go_wp2
                go_roundg (8 - i)
                case measure => omega
                case rel => exact ⟨N', i + 1, rfl, by go_num, by omega, by omega, hi7, HH.out.2, HH.out.1, rfl⟩
end Go.Proofs.Ytipiohkpdkandaa
