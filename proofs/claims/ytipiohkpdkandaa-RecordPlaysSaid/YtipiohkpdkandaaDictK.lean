/-
  Keys, New of the dictionary; two lists compared: walks. Conditions: none.
-/
import Derived.Test.YtipiohkpdkandaaDictF
namespace Go.Proofs.Ytipiohkpdkandaa
set_option linter.unusedVariables false
set_option linter.unusedSimpArgs false
open Go.RowKit

/-- the keys, the latest first -/
def recent (d : DD) : List ByteArray := d.order.map (fun s => d.keys[s]?.getD ByteArray.empty)
theorem recent_length {d : DD} (h : DInv d) : (recent d).length = d.keys.length := by unfold recent; rw [List.length_map, h.len]
theorem recent_get {d : DD} {i s : Nat} {k : ByteArray} (h1 : d.order[i]? = some s) (h2 : d.keys[s]? = some k) : (recent d)[i]? = some k := by
  unfold recent
  rw [List.getElem?_map, h1]
  simp [h2]
theorem take_succ_get {α : Type} {l : List α} {i : Nat} {x : α} (h : l[i]? = some x) : l.take (i + 1) = l.take i ++ [x] := by
  rw [List.take_add_one, h]; rfl

/-- A slice of strings that the callee made. -/
def StrsNew (w : World) (l : List ByteArray) (n : Nat) (e : Ending) (w' : World) : Prop :=
  ∃ A c, e = .returned (.slice A n c) ∧ Row w' 9 A n c (strs l) ∧ (∀ g, blk A = some g → w.heap.size ≤ g) ∧ Below w.heap.size w w'

set_option maxRecDepth 100000 in
set_option maxHeartbeats 1000000 in
theorem keys_any {w : World} {p : Nat} {d : DD} {S : Nat → Prop} (h : DictAt w p d S) :
    Calls Try.prog 27 #[.pointer (some ⟨p, 0, none⟩)] w (StrsNew w (recent d) d.keys.length) := by
  obtain ⟨M, K, O, n, ck, co, hB, hS⟩ := h
  have hlen := hB.len
  have hn : n ≤ 64 := by have := hB.inv.le; have := hB.inv.hi; omega
  have HB := Lib.hid hB
  have HL := Lib.hid hlen
  have c3 := hB.c3
  rw [hlen]
  clear hB hS hlen
  go_enter Try.func27, Try.ntmps27
  go_wp2_with fail
  go_loopg [3, 11] n (fun gk v3 v11 wr => ∃ (k c : Nat) (A : Option Addr), v11 = .int .i64 k ∧ v3 = .slice A k c ∧ gk + k = n ∧ Row wr 9 A k c (strs ((recent d).take k)) ∧ (∀ g, blk A = some g → w.heap.size ≤ g) ∧ Below w.heap.size w wr)
  case atStart => exact ⟨0, 0, none, rfl, rfl, by omega, Row.nil _ _, (fun g h => by cases h), Below.refl _ _⟩
  case round =>
    obtain ⟨k, c, A, rfl, rfl, hk, hr, hA, hb⟩ := hrel
    by_cases hkn : k < n
    · have hkni : (k : Int) < n := by omega
      have hB := HB.out.kept (Upd.of_below hb) (by have := HB.out.lt; omega) (by have := HB.out.map.lt; omega) (fun g hg => by have := HB.out.keys.lt hg; omega) (fun g hg => by have := HB.out.order.lt hg; omega)
      have c1 := hB.c1
      obtain ⟨s, hs⟩ : ∃ s, d.order[k]? = some s := ⟨_, List.getElem?_eq_getElem (by rw [hB.inv.len, HL.out]; exact hkn)⟩
      have hsk := hB.inv.below s (List.mem_of_getElem? hs)
      have hsn : s < n := by rw [← HL.out]; exact hsk
      obtain ⟨key, hkey⟩ : ∃ key, d.keys[s]? = some key := ⟨_, List.getElem?_eq_getElem hsk⟩
      obtain ⟨gk1, hK⟩ : ∃ g, K = some ⟨g, 0, none⟩ := by
        rcases hB.keys.form with ⟨_, h0, _⟩ | ⟨g, _, h0, _⟩
        · omega
        · exact ⟨g, h0⟩
      obtain ⟨go, hO⟩ : ∃ g, O = some ⟨g, 0, none⟩ := by
        rcases hB.order.form with ⟨_, h0, _⟩ | ⟨g, _, h0, _⟩
        · omega
        · exact ⟨g, h0⟩
      subst hK
      subst hO
      have co1 : wr.cell? ⟨go, k, none⟩ = some (.int .i64 (s : Int)) := hB.order.cell (ints_get hs)
      have ck1 : wr.cell? ⟨gk1, s, none⟩ = some (.string key) := hB.keys.cell (strs_get hkey)
      have HT := Lib.hid (take_succ_get (recent_get hs hkey))
      have HA := Lib.hid (And.intro hA hb)
      clear hB hs hsk hkey hA hb c3
      go_wp2_with (at_builtin; go_must (refine row_append1 rfl (.tmp 15) (.tmp 23) 43 9 (.string ByteArray.empty) 16 rfl Try.underlying43 infoStr rfl (by decide) A k c (strs ((recent d).take k)) (.string key) rfl rfl rfl hr (by omega) ?_))
      intro A1 c1' w1 a1 a2 a3
      have HX := Lib.hid (And.intro a1 (And.intro a2 a3))
      clear a1 a2 a3 hr
      go_wp2
      go_roundg (n - k - 1)
      case measure => omega
      case rel =>
        refine ⟨k + 1, c1', A1, by go_num, rfl, by omega, ?_, ?_, ?_⟩
        · rw [HT.out]
          have := HX.out.1
          rwa [show strs (List.take k (recent d) ++ [key]) = strs (List.take k (recent d)) ++ [.string key] by simp [strs]]
        · intro g hg
          rcases HX.out.2.2 with h | ⟨b, h, hb⟩
          · exact HA.out.1 g (h ▸ hg)
          · rw [h] at hg; injection hg with hg; have := HA.out.2.size; omega
        · exact HA.out.2.trans (HX.out.2.1.below HA.out.2.size (fun b _ h => HA.out.1 b h))
    · obtain rfl : k = n := by omega
      have ht : (recent d).take k = recent d := List.take_of_length_le (by rw [recent_length HB.out.inv, HL.out]; exact Nat.le_refl _)
      rw [ht] at hr
      have HA := Lib.hid (And.intro hr (And.intro hA hb))
      clear hr hA hb ht c3
      go_wp2
      go_ret
      exact ⟨A, c, rfl, HA.out⟩

/-- The new dictionary. -/
theorem new_no (r : Int) (w : World) (h : r < 1 ∨ 64 < r) : Calls Try.prog 24 #[.int .i64 r] w fun e w' => e = .returned (.tuple #[.pointer none, .int .i64 1]) ∧ w = w' := by
  by_cases h1 : r < 1
  · clear h
    go_enter Try.func24, Try.ntmps24
    go_wp2
    go_ret2
    exact ⟨rfl, rfl⟩
  · have h2 : 64 < r := by omega
    clear h
    go_enter Try.func24, Try.ntmps24
    go_wp2
    go_ret2
    exact ⟨rfl, rfl⟩

theorem alloc_size (w : World) (o : Obj) : (w.alloc o).heap.size = w.heap.size + 1 := Array.size_push ..
theorem alloc_top {w : World} {o : Obj} {p : Nat} (h : p = w.heap.size) : (w.alloc o).heap[p]? = some o := by subst h; exact (MapKept.heap_alloc w o).1
theorem DInv.new {r : Nat} (h1 : 1 ≤ r) (h2 : r ≤ 64) : DInv ⟨r, [], []⟩ :=
  ⟨h1, h2, rfl, by simp, by simp, by simp, by simp, by simp, by simp⟩
/-- A dictionary that the callee made. -/
def DictNew (w : World) (d : DD) (p : Nat) (w' : World) : Prop := ∃ S, DictAt w' p d S ∧ (∀ b, S b → w.heap.size ≤ b) ∧ Below w.heap.size w w'
theorem new_yes (r : Nat) (w : World) (h1 : 1 ≤ r) (h2 : r ≤ 64) : Calls Try.prog 24 #[.int .i64 r] w fun e w' => ∃ p, e = .returned (.tuple #[.pointer (some ⟨p, 0, none⟩), .int .i64 0]) ∧ DictNew w ⟨r, [], []⟩ p w' := by
  have h1i : (1 : Int) ≤ r := by omega
  have h2i : (r : Int) ≤ 64 := by omega
  have HI := Lib.hid (DInv.new h1 h2)
  have hmm : ∀ (t : TypeId) (w : World), (Instr.makeMap t none).run Try.prog w = .ok (.map (some w.heap.size)) (w.alloc (.map #[] 0)) := fun _ _ => rfl
  go_enter Try.func24, Try.ntmps24
  go_wp2
  go_ret2
  refine ⟨_, rfl, _, DictB.at (M := w.heap.size) (K := none) (O := none) (n := 0) (ck := 0) (co := 0) ⟨rfl, alloc_top (by rw [alloc_size]), Row.nil _ _, Row.nil _ _, ((MapIs.made w).alloc _).congr (by simp), HI.out⟩, ?_, ?_⟩
  · rintro b (rfl | rfl | h | h)
    · exact Nat.le_succ _
    · exact Nat.le_refl _
    · cases h
    · cases h
  · exact ((Below.refl _ _).alloc (Nat.le_refl _) _).alloc (by rw [alloc_size]; omega) _
end Go.Proofs.Ytipiohkpdkandaa
