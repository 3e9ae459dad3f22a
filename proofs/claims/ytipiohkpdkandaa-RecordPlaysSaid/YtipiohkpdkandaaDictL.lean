/-
  The dictionary's calls for every input; two lists compared: walks. Conditions: none.
-/
import Derived.Test.YtipiohkpdkandaaDictK
namespace Go.Proofs.Ytipiohkpdkandaa
set_option linter.unusedVariables false
set_option linter.unusedSimpArgs false
open Go.RowKit

theorem bytes_beq (x y : ByteArray) : (x == y) = decide (x = y) := by
  obtain ⟨x⟩ := x
  obtain ⟨y⟩ := y
  show (x == y) = _
  rw [Bool.eq_iff_iff]
  simp [ByteArray.ext_iff]
theorem bytes_same (x : ByteArray) : (x == x) = true := by rw [bytes_beq]; simp
theorem bytes_bne (x : ByteArray) : (x != x) = false := by unfold bne; rw [bytes_same]; rfl

set_option maxRecDepth 100000 in
set_option maxHeartbeats 1000000 in
theorem same_yes (w : World) (A B : Option Addr) (n c1 c2 : Nat) (l : List ByteArray) (ha : Rd w A n (strs l)) (hb : Rd w B n (strs l)) :
    Calls Try.prog 28 #[.slice A n c1, .slice B n c2] w fun e w' => e = .returned (.bool true) ∧ Below w.heap.size w w' := by
  have hl : l.length = n := by have := ha.len; rwa [strs_length] at this
  have hmax : n ≤ 9223372036854775807 := ha.max
  have HA := Lib.hid ha
  have HB := Lib.hid hb
  have HL := Lib.hid hl
  clear ha hb hl
  go_enter Try.func28, Try.ntmps28
  go_wp2_with fail
  go_loopg [5] n (fun gk v5 wr => ∃ k : Nat, v5 = .int .i64 k ∧ gk + k = n ∧ Below w.heap.size w wr)
  case atStart => exact ⟨0, rfl, by omega, Below.refl _ _⟩
  case round =>
    obtain ⟨k, rfl, hk, hbw⟩ := hrel
    by_cases hkn : k < n
    · have hkni : (k : Int) < n := by omega
      obtain ⟨x, hx⟩ : ∃ x, l[k]? = some x := ⟨_, List.getElem?_eq_getElem (by rw [HL.out]; exact hkn)⟩
      obtain ⟨b1, o1, rfl, h1⟩ := (HA.out.below hbw (Nat.le_refl _)).form (by omega)
      obtain ⟨b2, o2, rfl, h2⟩ := (HB.out.below hbw (Nat.le_refl _)).form (by omega)
      have e1 := h1 k _ (strs_get hx)
      have e2 := h2 k _ (strs_get hx)
      have hne := bytes_bne x
      have HW := Lib.hid hbw
      clear h1 h2 hx hbw
      go_wp2_with fail
      go_quiet (fail)
      go_wp2
      go_roundg (n - k - 1)
      case measure => omega
      case rel => exact ⟨k + 1, by go_num, by omega, below_drewN HW.out _⟩
    · have HW := Lib.hid hbw
      clear hbw
      go_wp2
      go_ret
      exact ⟨by simp, HW.out⟩

open Classical in
/-- a key is used, whatever it is: the dictionary then, its slot, had it one, the error -/
noncomputable def useG (d : DD) (k : ByteArray) : DD × Nat × Bool × Int := if keyOk k then ((useF d k).1, (useF d k).2.1, (useF d k).2.2, 0) else (d, 0, false, 61)
def UseAll (w : World) (p : Nat) (d : DD) (k : ByteArray) (S : Nat → Prop) (e : Ending) (w' : World) : Prop :=
  ∃ S', e = .returned (.tuple #[.int .i64 (useG d k).2.1, .bool (useG d k).2.2.1, .int .i64 (useG d k).2.2.2]) ∧ DictAt w' p (useG d k).1 S' ∧ Upd w w' S ∧ ∀ b, S' b → S b ∨ w.heap.size ≤ b
theorem use_all {w : World} {p : Nat} {d : DD} {S : Nat → Prop} (h : DictAt w p d S) (k : ByteArray) (hm : k.size ≤ maxLen) :
    Calls Try.prog 26 #[.pointer (some ⟨p, 0, none⟩), .string k] w (UseAll w p d k S) := by
  by_cases hk : keyOk k
  · refine (use_any h k hk).mono ?_
    rintro e w' ⟨S', rfl, h1, h2, h3⟩
    refine ⟨S', ?_, ?_, h2, h3⟩
    · rw [useG, if_pos hk]
    · rw [useG, if_pos hk]; exact h1
  · refine (use_no w p k hk hm).mono ?_
    rintro e w' ⟨rfl, rfl⟩
    refine ⟨S, ?_, ?_, Upd.refl _ _, fun b hb => .inl hb⟩
    · rw [useG, if_neg hk]; rfl
    · rw [useG, if_neg hk]; exact h

open Classical in
/-- a slot is touched -/
noncomputable def touchG (d : DD) (s : Int) : DD × ByteArray × Int := if 0 ≤ s ∧ s < d.keys.length then (touchF d s.toNat, d.keys[s.toNat]?.getD ByteArray.empty, 0) else (d, ByteArray.empty, 50)
def TouchAll (w : World) (p : Nat) (d : DD) (s : Int) (S : Nat → Prop) (e : Ending) (w' : World) : Prop :=
  e = .returned (.tuple #[.string (touchG d s).2.1, .int .i64 (touchG d s).2.2]) ∧ DictAt w' p (touchG d s).1 S ∧ Upd w w' S
theorem touch_all {w : World} {p : Nat} {d : DD} {S : Nat → Prop} (h : DictAt w p d S) (s : Int) :
    Calls Try.prog 30 #[.pointer (some ⟨p, 0, none⟩), .int .i64 s] w (TouchAll w p d s S) := by
  have h0 := h
  obtain ⟨M, K, O, n, ck, co, hB, hS⟩ := h
  by_cases hs : 0 ≤ s ∧ s < d.keys.length
  · obtain ⟨q, rfl⟩ := Int.eq_ofNat_of_zero_le hs.1
    have hq : q < d.keys.length := by omega
    obtain ⟨k, hk⟩ : ∃ k, d.keys[q]? = some k := ⟨_, List.getElem?_eq_getElem hq⟩
    refine (touch_yes hB hk).mono ?_
    rintro e w' ⟨rfl, h1, h2⟩
    have e1 : touchG d q = (touchF d q, k, 0) := by rw [touchG, if_pos hs]; simp [hk]
    refine ⟨by rw [e1], ?_, h2.mono (fun b _ hb => (hS b).2 (.inr (.inr (.inr hb))))⟩
    rw [e1]
    exact ⟨M, K, O, n, ck, co, h1, hS⟩
  · refine (touch_no hB s (by rw [← hB.len]; omega)).mono ?_
    rintro e w' ⟨rfl, rfl⟩
    have e1 : touchG d s = (d, ByteArray.empty, 50) := by rw [touchG, if_neg hs]
    exact ⟨by rw [e1], by rw [e1]; exact h0, Upd.refl _ _⟩

/-- A dictionary all of whose blocks lie at or past B; nothing below B was written since W. -/
def Own (B : Nat) (W w : World) (p : Nat) (d : DD) : Prop := ∃ S, DictAt w p d S ∧ (∀ b, S b → B ≤ b) ∧ Below B W w
section
variable {B : Nat} {W w : World} {p : Nat} {d : DD}
theorem Own.inv (h : Own B W w p d) : DInv d := by obtain ⟨S, h, _⟩ := h; exact h.inv
theorem Own.bel (h : Own B W w p d) : Below B W w := by obtain ⟨S, _, _, h⟩ := h; exact h
theorem Own.below {w' : World} (h : Own B W w p d) (hb : Below w.heap.size w w') (hB : B ≤ W.heap.size) : Own B W w' p d := by
  obtain ⟨S, h, h1, h2⟩ := h
  have := h2.size
  exact ⟨S, h.kept (Upd.of_below hb) (fun b hb => by have := h.lt hb; omega), h1, h2.trans (hb.mono (by omega))⟩
theorem own_new (r : Nat) (h1 : 1 ≤ r) (h2 : r ≤ 64) (hW : Below B W w) (hB : B ≤ W.heap.size) :
    Calls Try.prog 24 #[.int .i64 r] w fun e w' => ∃ p, e = .returned (.tuple #[.pointer (some ⟨p, 0, none⟩), .int .i64 0]) ∧ Own B W w' p ⟨r, [], []⟩ := by
  refine (new_yes r w h1 h2).mono ?_
  rintro e w' ⟨p, rfl, S, a1, a2, a3⟩
  have := hW.size
  exact ⟨p, rfl, S, a1, fun b hb => by have := a2 b hb; omega, hW.trans (a3.mono (by omega))⟩
theorem own_use (h : Own B W w p d) (hB : B ≤ W.heap.size) (k : ByteArray) (hm : k.size ≤ maxLen) :
    Calls Try.prog 26 #[.pointer (some ⟨p, 0, none⟩), .string k] w fun e w' => e = .returned (.tuple #[.int .i64 (useG d k).2.1, .bool (useG d k).2.2.1, .int .i64 (useG d k).2.2.2]) ∧ Own B W w' p (useG d k).1 := by
  obtain ⟨S, h, h1, h2⟩ := h
  refine (use_all h k hm).mono ?_
  rintro e w' ⟨S', rfl, a1, a2, a3⟩
  have := h2.size
  refine ⟨rfl, S', a1, fun b hb => ?_, h2.trans (a2.below (by omega) (fun b _ hb => h1 b hb))⟩
  rcases a3 b hb with h | h
  · exact h1 b h
  · omega
theorem own_touch (h : Own B W w p d) (hB : B ≤ W.heap.size) (s : Int) :
    Calls Try.prog 30 #[.pointer (some ⟨p, 0, none⟩), .int .i64 s] w fun e w' => e = .returned (.tuple #[.string (touchG d s).2.1, .int .i64 (touchG d s).2.2]) ∧ Own B W w' p (touchG d s).1 := by
  obtain ⟨S, h, h1, h2⟩ := h
  refine (touch_all h s).mono ?_
  rintro e w' ⟨rfl, a1, a2⟩
  have := h2.size
  exact ⟨rfl, S, a1, h1, h2.trans (a2.below (by omega) (fun b _ hb => h1 b hb))⟩
theorem own_look (h : Own B W w p d) (k : ByteArray) (hm : k.size ≤ maxLen) :
    Calls Try.prog 25 #[.pointer (some ⟨p, 0, none⟩), .string k] w fun e w' => e = .returned (.int .i64 (lookF d k)) ∧ w = w' := by
  obtain ⟨S, h, _⟩ := h
  exact look_any h k hm
theorem own_keys (h : Own B W w p d) (hB : B ≤ W.heap.size) :
    Calls Try.prog 27 #[.pointer (some ⟨p, 0, none⟩)] w fun e w' => ∃ A c, e = .returned (.slice A d.keys.length c) ∧ Row w' 9 A d.keys.length c (strs (recent d)) ∧ (∀ g, blk A = some g → w.heap.size ≤ g) ∧ Below w.heap.size w w' ∧ Own B W w' p d := by
  have h' := h
  obtain ⟨S, h, _⟩ := h
  refine (keys_any h).mono ?_
  rintro e w' ⟨A, c, rfl, a1, a2, a3⟩
  exact ⟨A, c, rfl, a1, a2, a3, h'.below a3 hB⟩
end
end Go.Proofs.Ytipiohkpdkandaa
