/-
  The walks of package bits and of its reference but for Read: what each computes. Conditions: none.
-/
import Derived.Test.YtipiohkpdkandaaProg
import Derived.Test.YtipiohkpdkandaaDig
namespace Go.Proofs.Ytipiohkpdkandaa
set_option linter.unusedVariables false
set_option linter.unusedSimpArgs false
open Go.RowKit

theorem infoByte : (Try.prog.info? 5).map (fun i => (i.zero, i.size, i.bytes)) = some (some (.int .u8 0), 1, 1) := by kernel_rfl

theorem may_yes (n : Int) (w : World) (h1 : 0 ≤ n) (h2 : n ≤ 4611686018427387903) :
    Calls Try.prog 66 #[.int .i64 n] w fun e w' => e = .returned (.bool true) ∧ w = w' := by
  go_enter Try.func66, Try.ntmps66
  go_wp2
  go_ret
  exact ⟨by simp [h1, h2], rfl⟩
theorem may_no (n : Int) (w : World) (h : n < 0 ∨ 4611686018427387903 < n) :
    Calls Try.prog 66 #[.int .i64 n] w fun e w' => e = .returned (.bool false) ∧ w = w' := by
  by_cases h1 : 0 ≤ n
  · have h2 : 4611686018427387903 < n := by omega
    clear h
    go_enter Try.func66, Try.ntmps66
    go_wp2
    go_ret
    exact ⟨by simp [h1, h2], rfl⟩
  · clear h
    go_enter Try.func66, Try.ntmps66
    go_wp2
    go_ret
    exact ⟨rfl, rfl⟩

/-- What Number leaves where there is no such number. -/
theorem number_no (n : Int) (w : World) (h : n < 0 ∨ 4611686018427387903 < n) :
    Calls Try.prog 65 #[.int .i64 n] w fun e w' => e = .returned (.tuple #[.slice none 0 0, .int .i64 1]) ∧ w = w' := by
  go_enter Try.func65, Try.ntmps65
  go_wp2_with (go_at_call 66; refine (may_no _ _ h).mono ?_; rintro e w' ⟨rfl, rfl⟩)
  go_ret2
  exact ⟨rfl, rfl⟩

/-- What Number leaves. -/
def NumPost (w : World) (n : Nat) (e : Ending) (w' : World) : Prop :=
  ∃ A c, e = .returned (.tuple #[.slice A (digs n).length c, .int .i64 0]) ∧ Row w' 5 A (digs n).length c (nums .u8 (digs n)) ∧ (∀ g, blk A = some g → w.heap.size ≤ g) ∧ Below w.heap.size w w'

set_option maxRecDepth 100000 in
theorem number_yes (n : Nat) (w : World) (h : n ≤ 4611686018427387903) :
    Calls Try.prog 65 #[.int .i64 n] w (NumPost w n) := by
  have hyes := fun wx => may_yes n wx (by omega) (by omega)
  have hl := (digs_len9 h).2
  clear h
  have hmk : ∀ w, (Instr.makeSlice 25 (.int .i64 0) (.int .i64 9)).run Try.prog w = .ok (.slice (some ⟨w.heap.size, 0, none⟩) 0 9) (w.alloc (.cells #[.int .u8 0, .int .u8 0, .int .u8 0, .int .u8 0, .int .u8 0, .int .u8 0, .int .u8 0, .int .u8 0, .int .u8 0] 5)) := fun _ => by kernel_rfl
  go_enter Try.func65, Try.ntmps65
  go_wp2_with (go_at_call 66; refine (hyes _).mono ?_; rintro e w' ⟨rfl, rfl⟩)
  go_loopg [0, 4] n (fun gk v0 v4 wr => ∃ (m : Nat) (pre : List Int) (A : Option Addr) (k c : Nat), v0 = .int .i64 m ∧ v4 = .slice A k c ∧ m ≤ gk ∧ Hid (digs n = pre ++ digs m) ∧ Hid (pre.length = k) ∧ Row wr 5 A k c (nums .u8 pre) ∧ (∀ g, blk A = some g → w.heap.size ≤ g) ∧ Below w.heap.size w wr)
  case atStart => exact ⟨n, [], _, 0, 9, rfl, rfl, Nat.le_refl _, rfl, rfl, Row.made _ _ _ (by simp) (by simp [maxLen]) (by simp [nums]), by intro g hg; simp [blk] at hg; omega, (Below.refl _ _).alloc (Nat.le_refl _) _⟩
  case round =>
    obtain ⟨m, pre, A, k, c, rfl, rfl, hm, hd, hk, hown, hB, hb⟩ := hrel
    clear hyes
    have hlen : k + (digs m).length ≤ 9 := by rw [hd.out] at hl; simp at hl; rw [hk.out] at hl; exact hl
    clear hl
    by_cases hlt : m < 128
    · rw [digs_lo hlt] at hlen
      have HL := Lib.hid hlen
      have HR := Lib.hid hB
      clear hlen hB
      have hlt' : (m : Int) < 128 := by omega
      go_wp2_with (at_builtin; go_must (refine row_append1 rfl _ _ 25 5 _ 1 rfl Try.underlying25 infoByte rfl (by decide) A k c (nums .u8 pre) _ rfl rfl rfl hown (by have := HL.out; simp at this; omega) ?_); intro A1 c1 w1 h1 h2 h3)
      go_ret2
      have e := hd.out
      rw [digs_lo hlt] at e
      have e2 : (digs n).length = k + 1 := by rw [e, List.length_append, hk.out]; rfl
      refine ⟨A1, c1, by rw [e2]; rfl, ?_, ?_, ?_⟩
      · rw [e2, e, nums_append]; exact h1
      · intro g hg
        have hs := hb.size
        rcases h3 with h3 | ⟨b, h3, hb2⟩
        · exact HR.out g (h3 ▸ hg)
        · rw [h3] at hg; injection hg with hg; omega
      · exact hb.trans (h2.below hb.size (fun k _ hk => HR.out k hk))
    · have hlen' : k + 1 ≤ 9 := by rw [digs_hi hlt] at hlen; simp at hlen; omega
      have HL := Lib.hid hlen
      have HR := Lib.hid hB
      clear hlen hB
      have hge : (128 : Int) ≤ m := by omega
      go_wp2_with (at_builtin; go_must (refine row_append1 rfl _ _ 25 5 _ 1 rfl Try.underlying25 infoByte rfl (by decide) A k c (nums .u8 pre) _ rfl rfl rfl hown (by omega) ?_); intro A1 c1 w1 h1 h2 h3)
      go_roundg (m / 128)
      case measure => omega
      case rel =>
        rw [or_more] at h1
        refine ⟨m / 128, pre ++ [((m % 128 + 128 : Nat) : Int)], A1, k + 1, c1, by go_num, rfl, Nat.le_refl _, ?_, ?_, by rw [nums_append]; exact h1, ?_, ?_⟩
        · have := hd.out; rw [digs_hi hlt] at this; show digs n = _; rw [this]; simp
        · show _ = _; rw [List.length_append, hk.out]; rfl
        · intro g hg
          have hs := hb.size
          rcases h3 with h3 | ⟨b, h3, hb2⟩
          · exact HR.out g (h3 ▸ hg)
          · rw [h3] at hg; injection hg with hg; omega
        · exact hb.trans (h2.below hb.size (fun k _ hk => HR.out k hk))

set_option maxRecDepth 100000 in
theorem refNumber_no (n : Int) (w : World) (h : n < 0 ∨ 4611686018427387903 < n) :
    Calls Try.prog 78 #[.int .i64 n] w fun e w' => e = .returned (.tuple #[.slice none 0 0, .int .i64 1]) ∧ w = w' := by
  by_cases h1 : n < 0
  · clear h
    go_enter Try.func78, Try.ntmps78
    go_wp2
    go_ret2
    exact ⟨rfl, rfl⟩
  · have h2 : 4611686018427387903 < n := by omega
    have h3 : 0 ≤ n := by omega
    clear h h1
    go_enter Try.func78, Try.ntmps78
    go_wp2
    go_ret2
    exact ⟨rfl, rfl⟩

theorem sum_more (m : Nat) : (128 + (m : Int) % 128) = ((m % 128 + 128 : Nat) : Int) := by omega

set_option maxRecDepth 100000 in
theorem refNumber_yes (n : Nat) (w : World) (h : n ≤ 4611686018427387903) :
    Calls Try.prog 78 #[.int .i64 n] w (NumPost w n) := by
  have hl := (digs_len9 h).2
  have h1 : ¬ (n : Int) < 0 := by omega
  have h2 : ¬ (4611686018427387903 : Int) < n := by omega
  have hmx : Hid ((n : Int) ≤ 4611686018427387903) := by show (n : Int) ≤ _; omega
  clear h
  go_enter Try.func78, Try.ntmps78
  go_wp2_with fail
  clear h1 h2
  go_loopg [0, 4] n (fun gk v0 v4 wr => ∃ (m : Nat) (pre : List Int) (A : Option Addr) (k c : Nat), v0 = .int .i64 m ∧ v4 = .slice A k c ∧ m ≤ gk ∧ Hid ((m : Int) ≤ 4611686018427387903) ∧ Hid (digs n = pre ++ digs m) ∧ Hid (pre.length = k) ∧ Row wr 5 A k c (nums .u8 pre) ∧ (∀ g, blk A = some g → w.heap.size ≤ g) ∧ Below w.heap.size w wr)
  case atStart => exact ⟨n, [], _, 0, 0, rfl, rfl, Nat.le_refl _, hmx, rfl, rfl, Row.nil _ _, by intro g hg; simp [blk] at hg, Below.refl _ _⟩
  case round =>
    obtain ⟨m, pre, A, k, c, rfl, rfl, hm, hM, hd, hk, hown, hB, hb⟩ := hrel
    have hlen : k + (digs m).length ≤ 9 := by rw [hd.out] at hl; simp at hl; rw [hk.out] at hl; exact hl
    clear hl
    by_cases hlt : m < 128
    · rw [digs_lo hlt] at hlen
      have HL := Lib.hid hlen
      have HR := Lib.hid hB
      clear hlen hB
      have hlt' : (m : Int) < 128 := by omega
      go_wp2_with (at_builtin; go_must (refine row_append1 rfl _ _ 25 5 _ 1 rfl Try.underlying25 infoByte rfl (by decide) A k c (nums .u8 pre) _ rfl rfl rfl hown (by have := HL.out; simp at this; omega) ?_); intro A1 c1 w1 h1 h2 h3)
      go_ret2
      have e := hd.out
      rw [digs_lo hlt] at e
      have e2 : (digs n).length = k + 1 := by rw [e, List.length_append, hk.out]; rfl
      refine ⟨A1, c1, by rw [e2]; rfl, ?_, ?_, ?_⟩
      · rw [e2, e, nums_append]; exact h1
      · intro g hg
        have hs := hb.size
        rcases h3 with h3 | ⟨b, h3, hb2⟩
        · exact HR.out g (h3 ▸ hg)
        · rw [h3] at hg; injection hg with hg; omega
      · exact hb.trans (h2.below hb.size (fun k _ hk => HR.out k hk))
    · have hlen' : k + 1 ≤ 9 := by rw [digs_hi hlt] at hlen; simp at hlen; omega
      have HL := Lib.hid hlen
      have HR := Lib.hid hB
      clear hlen hB
      have hge : (128 : Int) ≤ m := by omega
      have hM2 := hM.out
      go_wp2_with (at_builtin; go_must (refine row_append1 rfl _ _ 25 5 _ 1 rfl Try.underlying25 infoByte rfl (by decide) A k c (nums .u8 pre) _ rfl rfl rfl hown (by omega) ?_); intro A1 c1 w1 h1 h2 h3)
      go_roundg (m / 128)
      case measure => omega
      case rel =>
        rw [sum_more] at h1
        refine ⟨m / 128, pre ++ [((m % 128 + 128 : Nat) : Int)], A1, k + 1, c1, by go_num, rfl, Nat.le_refl _, by show _ ≤ _; omega, ?_, ?_, by rw [nums_append]; exact h1, ?_, ?_⟩
        · have := hd.out; rw [digs_hi hlt] at this; show digs n = _; rw [this]; simp
        · show _ = _; rw [List.length_append, hk.out]; rfl
        · intro g hg
          have hs := hb.size
          rcases h3 with h3 | ⟨b, h3, hb2⟩
          · exact HR.out g (h3 ▸ hg)
          · rw [h3] at hg; injection hg with hg; omega
        · exact hb.trans (h2.below hb.size (fun k _ hk => HR.out k hk))

theorem ret_two {a b c d : Int} (h1 : a = c) (h2 : b = d) : Ending.returned (.tuple #[.int .i64 a, .int .i64 b]) = .returned (.tuple #[.int .i64 c, .int .i64 d]) := by rw [h1, h2]

set_option maxRecDepth 100000 in
theorem zig_any (n : Int) (w : World) :
    Calls Try.prog 45 #[.int .i64 n] w fun e w' => e = .returned (.tuple #[.int .i64 (zigF n).1, .int .i64 (zigF n).2]) ∧ w = w' := by
  by_cases h1 : n < -2305843009213693952
  · have e : zigF n = (0, 1) := by unfold zigF; rw [if_neg (by omega)]
    rw [e]; clear e
    go_enter Try.func45, Try.ntmps45
    go_wp2
    go_ret2
    exact ⟨rfl, rfl⟩
  · by_cases h2 : 2305843009213693951 < n
    · have e : zigF n = (0, 1) := by unfold zigF; rw [if_neg (by omega)]
      rw [e]; clear e
      go_enter Try.func45, Try.ntmps45
      go_wp2
      go_ret2
      exact ⟨rfl, rfl⟩
    · by_cases h3 : n < 0
      · have e : zigF n = (-2 * n - 1, 0) := by unfold zigF; rw [if_pos (by omega), if_pos h3]
        rw [e]; clear e
        go_enter Try.func45, Try.ntmps45
        go_wp2
        go_ret2
        exact ⟨rfl, rfl⟩
      · have e : zigF n = (2 * n, 0) := by unfold zigF; rw [if_pos (by omega), if_neg h3]
        rw [e]; clear e
        go_enter Try.func45, Try.ntmps45
        go_wp2
        go_ret2
        exact ⟨rfl, rfl⟩

set_option maxRecDepth 100000 in
theorem refZig_any (n : Int) (w : World) :
    Calls Try.prog 74 #[.int .i64 n] w fun e w' => e = .returned (.tuple #[.int .i64 (zigF n).1, .int .i64 (zigF n).2]) ∧ w = w' := by
  by_cases h1 : n < -2305843009213693952
  · have e : zigF n = (0, 1) := by unfold zigF; rw [if_neg (by omega)]
    rw [e]; clear e
    go_enter Try.func74, Try.ntmps74
    go_wp2
    go_ret2
    exact ⟨rfl, rfl⟩
  · by_cases h2 : 2305843009213693952 ≤ n
    · have e : zigF n = (0, 1) := by unfold zigF; rw [if_neg (by omega)]
      rw [e]; clear e
      go_enter Try.func74, Try.ntmps74
      go_wp2
      go_ret2
      exact ⟨rfl, rfl⟩
    · by_cases h3 : n < 0
      · have e : zigF n = (-2 * n - 1, 0) := by unfold zigF; rw [if_pos (by omega), if_pos h3]
        rw [e]; clear e
        go_enter Try.func74, Try.ntmps74
        go_wp2
        go_ret2
        exact ⟨rfl, rfl⟩
      · have e : zigF n = (2 * n, 0) := by unfold zigF; rw [if_pos (by omega), if_neg h3]
        rw [e]; clear e
        go_enter Try.func74, Try.ntmps74
        go_wp2
        go_ret2
        exact ⟨rfl, rfl⟩

set_option maxRecDepth 100000 in
theorem zag_any (n : Int) (w : World) :
    Calls Try.prog 49 #[.int .i64 n] w fun e w' => e = .returned (.tuple #[.int .i64 (zagF n).1, .int .i64 (zagF n).2]) ∧ w = w' := by
  by_cases h1 : n < 0 ∨ 4611686018427387903 < n
  · have e : zagF n = (0, 1) := by unfold zagF; rw [if_neg (by omega)]
    rw [e]; clear e
    have hm := fun wx => may_no n wx h1
    clear h1
    go_enter Try.func49, Try.ntmps49
    go_wp2_with (go_at_call 66; refine (hm _).mono ?_; rintro e w' ⟨rfl, rfl⟩)
    go_ret2
    exact ⟨rfl, rfl⟩
  · have hm := fun wx => may_yes n wx (by omega) (by omega)
    have h0 : 0 ≤ n := by omega
    have h9 : n ≤ 4611686018427387903 := by omega
    clear h1
    by_cases h3 : n % 2 = 1
    · have e : zagF n = (-(n / 2) - 1, 0) := by unfold zagF; rw [if_pos (by omega), if_pos h3]
      rw [e]; clear e
      go_enter Try.func49, Try.ntmps49
      go_wp2_with (go_at_call 66; refine (hm _).mono ?_; rintro e w' ⟨rfl, rfl⟩)
      go_ret2
      exact ⟨rfl, rfl⟩
    · have e : zagF n = (n / 2, 0) := by unfold zagF; rw [if_pos (by omega), if_neg h3]
      rw [e]; clear e
      have h4 : (n % 2 == 1) = false := by simpa using h3
      clear h3
      go_enter Try.func49, Try.ntmps49
      go_wp2_with (go_at_call 66; refine (hm _).mono ?_; rintro e w' ⟨rfl, rfl⟩)
      go_ret2
      exact ⟨rfl, rfl⟩

set_option maxRecDepth 100000 in
theorem refZag_any (n : Int) (w : World) :
    Calls Try.prog 81 #[.int .i64 n] w fun e w' => e = .returned (.tuple #[.int .i64 (zagF n).1, .int .i64 (zagF n).2]) ∧ w = w' := by
  by_cases h1 : n < 0
  · have e : zagF n = (0, 1) := by unfold zagF; rw [if_neg (by omega)]
    rw [e]; clear e
    go_enter Try.func81, Try.ntmps81
    go_wp2
    go_ret2
    exact ⟨rfl, rfl⟩
  · by_cases h2 : 4611686018427387903 < n
    · have e : zagF n = (0, 1) := by unfold zagF; rw [if_neg (by omega)]
      rw [e]; clear e
      go_enter Try.func81, Try.ntmps81
      go_wp2
      go_ret2
      exact ⟨rfl, rfl⟩
    · have h0 : 0 ≤ n := by omega
      by_cases h3 : n % 2 = 1
      · have e : zagF n = (-(n / 2) - 1, 0) := by unfold zagF; rw [if_pos (by omega), if_pos h3]
        rw [e]; clear e
        go_enter Try.func81, Try.ntmps81
        go_wp2
        go_ret2
        exact ⟨rfl, rfl⟩
      · have e : zagF n = (n / 2, 0) := by unfold zagF; rw [if_pos (by omega), if_neg h3]
        rw [e]; clear e
        have h4 : (n % 2 == 1) = false := by simpa using h3
        clear h3
        go_enter Try.func81, Try.ntmps81
        go_wp2
        go_ret2
        exact ⟨rfl, rfl⟩
end Go.Proofs.Ytipiohkpdkandaa
