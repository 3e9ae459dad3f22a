/-
  A dictionary in memory; Look, used, Touch: walks. Conditions: none.
-/
import Derived.Test.YtipiohkpdkandaaDictA
import Derived.Test.YtipiohkpdkandaaDictPure
import Derived.Test.YtipiohkpdkandaaOpen
namespace Go.Proofs.Ytipiohkpdkandaa
set_option linter.unusedVariables false
set_option linter.unusedSimpArgs false
open Go.RowKit

theorem strs_length (l : List ByteArray) : (strs l).length = l.length := by simp [strs]
theorem strs_get {l : List ByteArray} {i : Nat} {s : ByteArray} (h : l[i]? = some s) : (strs l)[i]? = some (.string s) := by simp [strs, h]
theorem strs_oneCell (l : List ByteArray) : ∀ u ∈ strs l, u.oneCell' = true := by
  intro u hu
  obtain ⟨_, _, rfl⟩ := List.mem_map.1 hu
  rfl

/-- The dictionary at block p, its blocks named. -/
structure DictB (w : World) (p M : Nat) (K O : Option Addr) (n ck co : Nat) (d : DD) : Prop where
  len : d.keys.length = n
  head : w.heap[p]? = some (.cells #[.int .i64 d.room, .slice K n ck, .map (some M), .slice O n co] 111 (0, 0))
  keys : Row w 9 K n ck (strs d.keys)
  order : Row w 3 O n co (ints d.order)
  map : MapIs w M (fun k v => d.keys[v]? = some k)
  inv : DInv d

/-- The dictionary at block p, and which blocks are its own. -/
def DictAt (w : World) (p : Nat) (d : DD) (S : Nat → Prop) : Prop :=
  ∃ M K O n ck co, DictB w p M K O n ck co d ∧ ∀ b, S b ↔ b = p ∨ b = M ∨ blk K = some b ∨ blk O = some b

section
variable {w : World} {p M n ck co : Nat} {K O : Option Addr} {d : DD}
theorem DictB.lt (h : DictB w p M K O n ck co d) : p < w.heap.size := (Array.getElem?_eq_some_iff.1 h.head).1
theorem DictB.c0 (h : DictB w p M K O n ck co d) : w.cell? ⟨p, 0, none⟩ = some (.int .i64 d.room) := by simp [World.cell?, h.head]
theorem DictB.c1 (h : DictB w p M K O n ck co d) : w.cell? ⟨p, 1, none⟩ = some (.slice K n ck) := by simp [World.cell?, h.head]
theorem DictB.c2 (h : DictB w p M K O n ck co d) : w.cell? ⟨p, 2, none⟩ = some (.map (some M)) := by simp [World.cell?, h.head]
theorem DictB.c3 (h : DictB w p M K O n ck co d) : w.cell? ⟨p, 3, none⟩ = some (.slice O n co) := by simp [World.cell?, h.head]
theorem DictB.free (h : DictB w p M K O n ck co d) (i : Nat) : w.frozen? ⟨p, i, none⟩ = false := by simp [World.frozen?, h.head]
theorem DictB.pK (h : DictB w p M K O n ck co d) : blk K ≠ some p := fun e => by
  rcases h.keys.form with ⟨rfl, _⟩ | ⟨g, cur, rfl, h2, _⟩
  · cases e
  · obtain rfl : g = p := by simpa [blk] using e
    rw [h.head] at h2
    injection h2 with h2
    injection h2 with _ h2
    exact absurd h2 (by decide)
theorem DictB.pO (h : DictB w p M K O n ck co d) : blk O ≠ some p := fun e => by
  rcases h.order.form with ⟨rfl, _⟩ | ⟨g, cur, rfl, h2, _⟩
  · cases e
  · obtain rfl : g = p := by simpa [blk] using e
    rw [h.head] at h2
    injection h2 with h2
    injection h2 with _ h2
    exact absurd h2 (by decide)
theorem DictB.KO (h : DictB w p M K O n ck co d) {g : Nat} (hg : blk K = some g) : blk O ≠ some g := h.keys.type_ne h.order (by decide) hg
theorem DictB.pM (h : DictB w p M K O n ck co d) : p ≠ M := fun e => by subst e; exact h.map.no_cells h.head
theorem DictB.KM (h : DictB w p M K O n ck co d) : blk K ≠ some M := fun e => by
  rcases h.keys.form with ⟨rfl, _⟩ | ⟨g, cur, rfl, h2, _⟩
  · cases e
  · obtain rfl : g = M := by simpa [blk] using e
    exact h.map.no_cells h2
theorem DictB.OM (h : DictB w p M K O n ck co d) : blk O ≠ some M := fun e => by
  rcases h.order.form with ⟨rfl, _⟩ | ⟨g, cur, rfl, h2, _⟩
  · cases e
  · obtain rfl : g = M := by simpa [blk] using e
    exact h.map.no_cells h2
theorem DictB.kept {w' : World} {S : Nat → Prop} (h : DictB w p M K O n ck co d) (hu : Upd w w' S) (h1 : ¬ S p) (h2 : ¬ S M) (h3 : ∀ g, blk K = some g → ¬ S g) (h4 : ∀ g, blk O = some g → ¬ S g) : DictB w' p M K O n ck co d :=
  ⟨h.len, (hu.block p h.lt h1).trans h.head, h.keys.kept hu h3, h.order.kept hu h4, h.map.kept hu h2, h.inv⟩
theorem DictB.at (h : DictB w p M K O n ck co d) : DictAt w p d (fun b => b = p ∨ b = M ∨ blk K = some b ∨ blk O = some b) := ⟨M, K, O, n, ck, co, h, fun _ => Iff.rfl⟩
end
theorem DictAt.kept {w w' : World} {p : Nat} {d : DD} {S T : Nat → Prop} (h : DictAt w p d S) (hu : Upd w w' T) (hn : ∀ b, S b → ¬ T b) : DictAt w' p d S := by
  obtain ⟨M, K, O, n, ck, co, hB, hS⟩ := h
  exact ⟨M, K, O, n, ck, co, hB.kept hu (hn p ((hS p).2 (.inl rfl))) (hn M ((hS M).2 (.inr (.inl rfl)))) (fun g hg => hn g ((hS g).2 (.inr (.inr (.inl hg))))) (fun g hg => hn g ((hS g).2 (.inr (.inr (.inr hg))))), hS⟩
theorem DictAt.lt {w : World} {p : Nat} {d : DD} {S : Nat → Prop} (h : DictAt w p d S) {b : Nat} (hb : S b) : b < w.heap.size := by
  obtain ⟨M, K, O, n, ck, co, hB, hS⟩ := h
  rcases (hS b).1 hb with rfl | rfl | hb | hb
  · exact hB.lt
  · exact hB.map.lt
  · exact hB.keys.lt hb
  · exact hB.order.lt hb
theorem DictAt.inv {w : World} {p : Nat} {d : DD} {S : Nat → Prop} (h : DictAt w p d S) : DInv d := by
  obtain ⟨M, K, O, n, ck, co, hB, hS⟩ := h
  exact hB.inv

theorem zeroInt (w : World) : (zeroValue 3).run Try.prog w = .ok (.int .i64 0) w := by kernel_rfl

open Classical in
/-- where a key stands; -1: nowhere -/
noncomputable def lookF (d : DD) (k : ByteArray) : Int := if k ∈ d.keys then (posK d.keys k : Int) else -1

set_option maxRecDepth 100000 in
theorem look_any {w : World} {p : Nat} {d : DD} {S : Nat → Prop} (h : DictAt w p d S) (k : ByteArray) (hk : k.size ≤ maxLen) :
    Calls Try.prog 25 #[.pointer (some ⟨p, 0, none⟩), .string k] w fun e w' => e = .returned (.int .i64 (lookF d k)) ∧ w = w' := by
  obtain ⟨M, K, O, n, ck, co, hB, hS⟩ := h
  have h2 := hB.c2
  by_cases hm : k ∈ d.keys
  · have hl := hB.map.look_some (P := Try.prog) Try.underlying109 Try.underlying9 hk (posK_get hm)
    have e : lookF d k = posK d.keys k := by unfold lookF; rw [if_pos hm]
    rw [e]
    clear hB hS e hm hk
    go_enter Try.func25, Try.ntmps25
    go_wp2
    go_ret
    exact ⟨rfl, rfl⟩
  · have hl := hB.map.look_none (P := Try.prog) Try.underlying109 Try.underlying9 (zeroInt w) hk (fun v hv => hm (List.mem_of_getElem? hv))
    have e : lookF d k = -1 := by unfold lookF; rw [if_neg hm]
    rw [e]
    clear hB hS e hm hk
    go_enter Try.func25, Try.ntmps25
    go_wp2
    go_ret
    exact ⟨rfl, rfl⟩

theorem DictB.used {w w' : World} {p M n ck co : Nat} {K O : Option Addr} {d : DD} (h : DictB w p M K O n ck co d) {s : Nat} (hs : s < d.keys.length) {g : Nat} (hO : O = some ⟨g, 0, none⟩) (hu : Upd w w' (fun b => b = g)) (hr : Row w' 3 (some ⟨g, 0, none⟩) n co (ints (front s d.order))) :
    DictB w' p M K O n ck co (touchF d s) := by
  subst hO
  exact ⟨h.len, (hu.block p h.lt (fun e => h.pO (by rw [e]; rfl))).trans h.head, h.keys.kept hu (fun b hb e => h.KO hb (by rw [e]; rfl)), hr, h.map.kept hu (fun e => h.OM (by rw [e]; rfl)), h.inv.touch hs⟩

set_option maxRecDepth 100000 in
theorem used_any {w : World} {p M n ck co : Nat} {K O : Option Addr} {d : DD} (h : DictB w p M K O n ck co d) {s : Nat} (hs : s < d.keys.length) :
    Calls Try.prog 53 #[.pointer (some ⟨p, 0, none⟩), .int .i64 s] w fun e w' => e = .returned (.tuple #[]) ∧ DictB w' p M K O n ck co (touchF d s) ∧ Upd w w' (fun b => blk O = some b) := by
  have hm := h.inv.mem hs
  have hn : n ≤ 64 := by have := h.len; have := h.inv.le; have := h.inv.hi; omega
  have h3 := h.c3
  have hidx : Calls Try.prog 68 #[.slice O n co, .int .i64 s] w.drew fun e w' => e = .returned (.int .i64 (d.order.idxOf s : Nat)) ∧ w' = w.drew := (index_any O n co d.order s w.drew h.order.drew.rd hm hn).mono fun e w' ⟨a, b⟩ => ⟨a, b.symm⟩
  obtain ⟨g, hO⟩ : ∃ g, O = some ⟨g, 0, none⟩ := by
    rcases h.order.form with ⟨_, h0, _⟩ | ⟨g, _, h0, _⟩
    · have := h.len; omega
    · exact ⟨g, h0⟩
  obtain ⟨q, hq⟩ : ∃ q, d.order.idxOf s = q := ⟨_, rfl⟩
  have hqs : d.order[q]? = some s := by
    have hlt := List.idxOf_lt_length_of_mem hm
    rw [← hq, List.getElem?_eq_getElem hlt, List.getElem_idxOf hlt]
  have hah := ahead_any g n co d.order q s w.drew (by rw [← hO]; exact h.order.drew) hqs hn
  rw [← front_eq hm hq, ← hO] at hah
  rw [hq] at hidx
  have H := Lib.hid h
  have HO := Lib.hid hO
  clear h hO hm hq hqs
  go_enter Try.func53, Try.ntmps53
  go_wp2
  go_still_tail 10, (by kernel_rfl)
  still_call hidx
  refine wpStill_nil ?_
  change wpList _ _ _ _ _ w.drew
  clear hidx h3
  go_wp2_with fail
  refine hah.mono ?_
  rintro e w1 ⟨rfl, h1, h2⟩
  have hu : Upd w w1 (fun b => b = g) := ((Upd.refl w _).drew).trans h2 (fun _ _ h => h)
  have hn2 := H.out.used hs HO.out hu (by rw [← HO.out]; exact h1)
  have hu2 : Upd w w1 (fun b => blk O = some b) := hu.mono (fun b _ h => by rw [HO.out, h]; rfl)
  have HH := Lib.hid (And.intro hn2 hu2)
  clear hah h1 h2 hu hn2 hu2
  go_wp2
  go_end0
  exact ⟨rfl, HH.out.1, HH.out.2⟩
end Go.Proofs.Ytipiohkpdkandaa
