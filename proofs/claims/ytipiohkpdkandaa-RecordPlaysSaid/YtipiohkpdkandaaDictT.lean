/-
  Touch, Use: walks. Conditions: none.
-/
import Derived.Test.YtipiohkpdkandaaDictW
namespace Go.Proofs.Ytipiohkpdkandaa
set_option linter.unusedVariables false
set_option linter.unusedSimpArgs false
open Go.RowKit

set_option maxRecDepth 100000 in
theorem touch_no {w : World} {p M n ck co : Nat} {K O : Option Addr} {d : DD} (h : DictB w p M K O n ck co d) (s : Int) (hs : s < 0 ∨ (n : Int) ≤ s) :
    Calls Try.prog 30 #[.pointer (some ⟨p, 0, none⟩), .int .i64 s] w fun e w' => e = .returned (.tuple #[.string ByteArray.empty, .int .i64 50]) ∧ w = w' := by
  have h1 := h.c1
  clear h
  by_cases hn : s < 0
  · clear hs
    go_enter Try.func30, Try.ntmps30
    go_wp2
    go_ret2
    exact ⟨rfl, rfl⟩
  · have hg : (n : Int) ≤ s := by omega
    clear hs
    go_enter Try.func30, Try.ntmps30
    go_wp2
    go_ret2
    exact ⟨rfl, rfl⟩

set_option maxRecDepth 100000 in
theorem touch_yes {w : World} {p M n ck co : Nat} {K O : Option Addr} {d : DD} (h : DictB w p M K O n ck co d) {s : Nat} {k : ByteArray} (hk : d.keys[s]? = some k) :
    Calls Try.prog 30 #[.pointer (some ⟨p, 0, none⟩), .int .i64 s] w fun e w' => e = .returned (.tuple #[.string k, .int .i64 0]) ∧ DictB w' p M K O n ck co (touchF d s) ∧ Upd w w' (fun b => blk O = some b) := by
  have hs : s < d.keys.length := (List.getElem?_eq_some_iff.1 hk).1
  have hsn : s < n := by have := h.len; omega
  have hu := used_any h hs
  have h1 := h.c1
  obtain ⟨g, hK⟩ : ∃ g, K = some ⟨g, 0, none⟩ := by
    rcases h.keys.form with ⟨_, h0, _⟩ | ⟨g, _, h0, _⟩
    · omega
    · exact ⟨g, h0⟩
  subst hK
  have HK := Lib.hid hk
  have hn63 : n ≤ 64 := by have := h.len; have := h.inv.le; have := h.inv.hi; omega
  clear h hk
  go_enter Try.func30, Try.ntmps30
  go_wp2_with fail
  refine hu.mono ?_
  rintro e w1 ⟨rfl, b1, b2⟩
  have h1' := b1.c1
  have hc := b1.keys.cell (strs_get (show (touchF d s).keys[s]? = some k from HK.out))
  have HH := Lib.hid (And.intro b1 b2)
  clear hu b1 b2 h1
  go_wp2
  go_ret2
  exact ⟨rfl, HH.out.1, HH.out.2⟩

def UseNo (w : World) (e : Ending) (w' : World) : Prop := e = .returned (.tuple #[.int .i64 0, .bool false, .int .i64 61]) ∧ w = w'
set_option maxRecDepth 100000 in
theorem use_no (w : World) (p : Nat) (k : ByteArray) (hk : ¬ keyOk k) (hm : k.size ≤ maxLen) :
    Calls Try.prog 26 #[.pointer (some ⟨p, 0, none⟩), .string k] w (UseNo w) := by
  unfold maxLen at hm
  unfold keyOk at hk
  by_cases h0 : k.size < 1
  · clear hk
    go_enter Try.func26, Try.ntmps26
    go_wp2
    go_ret3
    exact ⟨rfl, rfl⟩
  · have h1 : 64 < k.size := by omega
    clear hk
    go_enter Try.func26, Try.ntmps26
    go_wp2
    go_ret3
    exact ⟨rfl, rfl⟩

/-- What a use leaves. -/
def UseYes (w : World) (p : Nat) (d : DD) (k : ByteArray) (S : Nat → Prop) (e : Ending) (w' : World) : Prop :=
  ∃ S', e = .returned (.tuple #[.int .i64 (useF d k).2.1, .bool (useF d k).2.2, .int .i64 0]) ∧ DictAt w' p (useF d k).1 S' ∧ Upd w w' S ∧ ∀ b, S' b → S b ∨ w.heap.size ≤ b

set_option maxRecDepth 100000 in
theorem use_had {w : World} {p : Nat} {d : DD} {S : Nat → Prop} (h : DictAt w p d S) (k : ByteArray) (hk : keyOk k) (hm : k ∈ d.keys) :
    Calls Try.prog 26 #[.pointer (some ⟨p, 0, none⟩), .string k] w (UseYes w p d k S) := by
  have hk1 := hk.1
  have hk2 := hk.2
  have hl := look_any h k (by unfold maxLen; omega)
  obtain ⟨M, K, O, n, ck, co, hB, hS⟩ := h
  have hu := used_any hB (posK_lt hm)
  have e1 : lookF d k = posK d.keys k := by unfold lookF; rw [if_pos hm]
  have e2 : useF d k = (touchF d (posK d.keys k), posK d.keys k, true) := by unfold useF; rw [if_pos hm]
  rw [e1] at hl
  have E2 := Lib.hid e2
  have HS := Lib.hid hS
  obtain ⟨s, hs⟩ : ∃ s, posK d.keys k = s := ⟨_, rfl⟩
  rw [hs] at hl hu E2
  clear hk hm hB hS e1 e2 hs
  go_enter Try.func26, Try.ntmps26
  go_wp2_with fail
  refine hl.mono ?_
  rintro e w1 ⟨rfl, rfl⟩
  clear hl
  go_wp2_with fail
  refine hu.mono ?_
  rintro e w1 ⟨rfl, b1, b2⟩
  have HH := Lib.hid (And.intro b1 b2)
  clear hu b1 b2
  go_wp2
  go_ret3
  refine ⟨S, by rw [E2.out]; rfl, by rw [E2.out]; exact ⟨M, K, O, n, ck, co, HH.out.1, HS.out⟩, HH.out.2.mono (fun b _ hb => (HS.out b).2 (.inr (.inr (.inr hb)))), fun b hb => .inl hb⟩
end Go.Proofs.Ytipiohkpdkandaa
