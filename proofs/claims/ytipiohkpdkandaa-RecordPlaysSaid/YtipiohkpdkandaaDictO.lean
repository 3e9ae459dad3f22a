/-
  Two dictionaries in one world: the calls' contracts. Conditions: none.
-/
import Derived.Test.YtipiohkpdkandaaDictR
namespace Go.Proofs.Ytipiohkpdkandaa
set_option linter.unusedVariables false
set_option linter.unusedSimpArgs false
open Go.RowKit

/-- Two dictionaries apart, all blocks at or past B and none of F; nothing below B was written since W. -/
def Own2 (F : Nat → Prop) (B : Nat) (W w : World) (p : Nat) (d : DD) (q : Nat) (r : DD) : Prop :=
  ∃ S T, DictAt w p d S ∧ DictAt w q r T ∧ (∀ b, S b → B ≤ b ∧ ¬ T b ∧ ¬ F b) ∧ (∀ b, T b → B ≤ b ∧ ¬ F b) ∧ (∀ b, F b → b < w.heap.size) ∧ Below B W w
/-- What F names reads as it did. -/
def Keeps (F : Nat → Prop) (w w' : World) : Prop := ∀ b, F b → w'.heap[b]? = w.heap[b]?
section
variable {F : Nat → Prop} {B : Nat} {W w : World} {p q : Nat} {d r : DD}
theorem Own2.swap (h : Own2 F B W w p d q r) : Own2 F B W w q r p d := by
  obtain ⟨S, T, h1, h2, h3, h4, h5, h6⟩ := h
  exact ⟨T, S, h2, h1, fun b hb => ⟨(h4 b hb).1, fun hs => (h3 b hs).2.1 hb, (h4 b hb).2⟩, fun b hb => ⟨(h3 b hb).1, (h3 b hb).2.2⟩, h5, h6⟩
theorem Own2.inv (h : Own2 F B W w p d q r) : DInv d := by obtain ⟨S, T, h, _⟩ := h; exact h.inv
theorem Own2.bel (h : Own2 F B W w p d q r) : Below B W w := by obtain ⟨S, T, _, _, _, _, _, h⟩ := h; exact h
theorem Own2.one (h : Own2 F B W w p d q r) : Own B W w p d := by
  obtain ⟨S, T, h1, h2, h3, h4, h5, h6⟩ := h
  exact ⟨S, h1, fun b hb => (h3 b hb).1, h6⟩
theorem Own2.below {w' : World} (h : Own2 F B W w p d q r) (hb : Below w.heap.size w w') (hB : B ≤ W.heap.size) : Own2 F B W w' p d q r := by
  obtain ⟨S, T, h1, h2, h3, h4, h5, h6⟩ := h
  have := h6.size
  have := hb.size
  exact ⟨S, T, h1.kept (Upd.of_below hb) (fun b hb => by have := h1.lt hb; omega), h2.kept (Upd.of_below hb) (fun b hb => by have := h2.lt hb; omega), h3, h4, fun b hb => by have := h5 b hb; omega, h6.trans (hb.mono (by omega))⟩
/-- A row more that stays. -/
theorem Own2.frame {G : Nat → Prop} (h : Own2 F B W w p d q r) {w' : World} (hb : Below w.heap.size w w') (hB : B ≤ W.heap.size) (hG : ∀ b, G b → w.heap.size ≤ b ∧ b < w'.heap.size) : Own2 G B W w' p d q r := by
  obtain ⟨S, T, h1, h2, h3, h4, h5, h6⟩ := h
  have := h6.size
  exact ⟨S, T, h1.kept (Upd.of_below hb) (fun b hb => by have := h1.lt hb; omega), h2.kept (Upd.of_below hb) (fun b hb => by have := h2.lt hb; omega),
    fun b hs => ⟨(h3 b hs).1, (h3 b hs).2.1, fun hg => by have := h1.lt hs; have := (hG b hg).1; omega⟩, fun b hs => ⟨(h4 b hs).1, fun hg => by have := h2.lt hs; have := (hG b hg).1; omega⟩, fun b hg => (hG b hg).2, h6.trans (hb.mono (by omega))⟩
theorem own2_new (h : Own B W w p d) (x : Nat) (h1 : 1 ≤ x) (h2 : x ≤ 64) (hB : B ≤ W.heap.size) :
    Calls Try.prog 24 #[.int .i64 x] w fun e w' => ∃ q, e = .returned (.tuple #[.pointer (some ⟨q, 0, none⟩), .int .i64 0]) ∧ Own2 (fun _ => False) B W w' p d q ⟨x, [], []⟩ := by
  obtain ⟨S, h, h3, h4⟩ := h
  refine (new_yes x w h1 h2).mono ?_
  rintro e w' ⟨q, rfl, T, a1, a2, a3⟩
  have := h4.size
  exact ⟨q, rfl, S, T, h.kept (Upd.of_below a3) (fun b hb => by have := h.lt hb; omega), a1, fun b hb => ⟨h3 b hb, fun ht => by have := h.lt hb; have := a2 b ht; omega, id⟩, fun b hb => ⟨by have := a2 b hb; omega, id⟩, fun b hb => hb.elim, h4.trans (a3.mono (by omega))⟩
theorem own2_use (h : Own2 F B W w p d q r) (hB : B ≤ W.heap.size) (k : ByteArray) (hm : k.size ≤ maxLen) :
    Calls Try.prog 26 #[.pointer (some ⟨p, 0, none⟩), .string k] w fun e w' => e = .returned (.tuple #[.int .i64 (useG d k).2.1, .bool (useG d k).2.2.1, .int .i64 (useG d k).2.2.2]) ∧ Own2 F B W w' p (useG d k).1 q r ∧ Keeps F w w' := by
  obtain ⟨S, T, h1, h2, h3, h4, h5, h6⟩ := h
  refine (use_all h1 k hm).mono ?_
  rintro e w' ⟨S', rfl, a1, a2, a3⟩
  have := h6.size
  have := a2.size
  refine ⟨rfl, ⟨S', T, a1, h2.kept a2 (fun b hb hs => (h3 b hs).2.1 hb), fun b hb => ?_, h4, fun b hb => by have := h5 b hb; omega, h6.trans (a2.below (by omega) (fun b _ hb => (h3 b hb).1))⟩, fun b hb => a2.block b (h5 b hb) (fun hs => (h3 b hs).2.2 hb)⟩
  rcases a3 b hb with h | h
  · exact h3 b h
  · exact ⟨by omega, fun ht => by have := h2.lt ht; omega, fun hf => by have := h5 b hf; omega⟩
theorem own2_touch (h : Own2 F B W w p d q r) (hB : B ≤ W.heap.size) (s : Int) :
    Calls Try.prog 30 #[.pointer (some ⟨p, 0, none⟩), .int .i64 s] w fun e w' => e = .returned (.tuple #[.string (touchG d s).2.1, .int .i64 (touchG d s).2.2]) ∧ Own2 F B W w' p (touchG d s).1 q r ∧ Keeps F w w' := by
  obtain ⟨S, T, h1, h2, h3, h4, h5, h6⟩ := h
  refine (touch_all h1 s).mono ?_
  rintro e w' ⟨rfl, a1, a2⟩
  have := h6.size
  have := a2.size
  exact ⟨rfl, ⟨S, T, a1, h2.kept a2 (fun b hb hs => (h3 b hs).2.1 hb), h3, h4, fun b hb => by have := h5 b hb; omega, h6.trans (a2.below (by omega) (fun b _ hb => (h3 b hb).1))⟩, fun b hb => a2.block b (h5 b hb) (fun hs => (h3 b hs).2.2 hb)⟩
theorem own2_keys (h : Own2 F B W w p d q r) (hB : B ≤ W.heap.size) :
    Calls Try.prog 27 #[.pointer (some ⟨p, 0, none⟩)] w fun e w' => ∃ A c, e = .returned (.slice A d.keys.length c) ∧ Row w' 9 A d.keys.length c (strs (recent d)) ∧ (∀ g, blk A = some g → w.heap.size ≤ g) ∧ Below w.heap.size w w' ∧ Own2 F B W w' p d q r := by
  have h' := h
  obtain ⟨S, T, h, _⟩ := h
  refine (keys_any h).mono ?_
  rintro e w' ⟨A, c, rfl, a1, a2, a3⟩
  exact ⟨A, c, rfl, a1, a2, a3, h'.below a3 hB⟩
theorem own2_look (h : Own2 F B W w p d q r) (k : ByteArray) (hm : k.size ≤ maxLen) :
    Calls Try.prog 25 #[.pointer (some ⟨p, 0, none⟩), .string k] w fun e w' => e = .returned (.int .i64 (lookF d k)) ∧ w = w' := own_look h.one k hm
end

theorem late_take (n m : Nat) (h : n ≤ m) (l : List ByteArray) : late (n : Int) l = (late (m : Int) l).take n := by
  induction l with
  | nil => simp [late]
  | cons k l ih =>
    rw [late_cons, late_cons, ih]
    generalize late (m : Int) l = Q
    by_cases hk : keyOk k
    · by_cases hm : k ∈ Q
      · rw [lateStep_no (n := (m : Int)) (.inr hm)]
        unfold lateStep
        rw [if_neg]
        rintro ⟨_, h2, h3⟩
        rw [List.length_take] at h3
        rw [List.take_of_length_le (by omega)] at h2
        exact h2 hm
      · by_cases hf : Q.length < m
        · rw [lateStep_yes (n := (m : Int)) hk hm (by omega)]
          by_cases hn : Q.length < n
          · rw [List.take_of_length_le (by omega), lateStep_yes hk hm (by omega), List.take_of_length_le (by simp; omega)]
          · unfold lateStep
            rw [if_neg (by rintro ⟨_, _, h3⟩; rw [List.length_take] at h3; omega), List.take_append_of_le_length (by omega)]
        · have e : lateStep (m : Int) Q k = Q := by
            unfold lateStep
            rw [if_neg (by rintro ⟨_, _, h3⟩; omega)]
          rw [e]
          unfold lateStep
          rw [if_neg (by rintro ⟨_, _, h3⟩; rw [List.length_take] at h3; omega)]
    · rw [lateStep_no (.inl hk), lateStep_no (.inl hk)]
theorem use_two {d g : DD} (hd : DInv d) (hg : DInv g) (hsub : ∀ k, k ∈ d.keys → k ∈ g.keys) (k : ByteArray) :
    ∃ (d' g' : DD) (s t : Nat) (h1 h2 : Bool) (er : Int), useG d k = (d', s, h1, er) ∧ useG g k = (g', t, h2, er) ∧ (h1 = false ∨ (h1 = true ∧ h2 = true)) := by
  by_cases hk : keyOk k
  · by_cases hm : k ∈ d.keys
    · exact ⟨_, _, _, _, _, _, _, useG_had hk hm, useG_had hk (hsub k hm), .inr ⟨rfl, rfl⟩⟩
    · have h1 : ∃ d' s, useG d k = (d', s, false, 0) := by
        by_cases hr : d.keys.length < d.room
        · exact ⟨_, _, useG_new hk hm hr⟩
        · exact ⟨_, _, useG_full hk hm hr⟩
      have h2 : ∃ g' t h2, useG g k = (g', t, h2, 0) := by
        by_cases hm2 : k ∈ g.keys
        · exact ⟨_, _, _, useG_had hk hm2⟩
        · by_cases hr : g.keys.length < g.room
          · exact ⟨_, _, _, useG_new hk hm2 hr⟩
          · exact ⟨_, _, _, useG_full hk hm2 hr⟩
      obtain ⟨d', s, e1⟩ := h1
      obtain ⟨g', t, b, e2⟩ := h2
      exact ⟨_, _, _, _, _, _, _, e1, e2, .inl rfl⟩
  · exact ⟨_, _, _, _, _, _, _, useG_no hk, useG_no hk, .inl rfl⟩
theorem keys_sub {d g : DD} (hd : DInv d) (hg : DInv g) {n m : Nat} (h : n ≤ m) {l : List ByteArray} (e1 : recent d = late (n : Int) l) (e2 : recent g = late (m : Int) l) (k : ByteArray) (hk : k ∈ d.keys) : k ∈ g.keys := by
  have := (mem_recent hd).2 hk
  rw [e1, late_take n m h] at this
  exact (mem_recent hg).1 (by rw [e2]; exact List.mem_of_mem_take this)
end Go.Proofs.Ytipiohkpdkandaa
