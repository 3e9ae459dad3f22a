/-
  The reference's dictionary in memory; New, Key, Look, free: walks. Conditions: none.
-/
import Derived.Test.YtipiohkpdkandaaRefP
import Derived.Test.YtipiohkpdkandaaRowN
import Derived.Test.YtipiohkpdkandaaDictC
namespace Go.Proofs.Ytipiohkpdkandaa
set_option linter.unusedVariables false
set_option linter.unusedSimpArgs false
open Go.RowKit

section
variable {w w' : World} {e : TypeId} {k : Nat} {A : Option Addr} {n c g : Nat} {xs : List Value}
theorem RowN.store (h : RowN w e k (some ⟨g, 0, none⟩) n c xs) (i : Nat) (u : Value) : RowN (w.setCell ⟨g, i, none⟩ u) e k (some ⟨g, 0, none⟩) n c (xs.set i u) := by
  refine ⟨by rw [List.length_set]; exact h.len, ?_⟩
  rcases h.form with ⟨h1, _⟩ | ⟨g', cur, h1, h2, h3, h4, h5, h6⟩
  · cases h1
  · injection h1 with h1
    injection h1 with h1
    subst h1
    refine .inr ⟨g, cur.setIfInBounds i u, rfl, ?_, h3, h4, by simpa using h5, ?_⟩
    · simp [World.setCell, Array.getElem?_modify, h2]
    · rw [← h6, Array.toList_setIfInBounds, List.take_set]
theorem RowN.free (h : RowN w e k (some ⟨g, 0, none⟩) n c xs) (i : Nat) : w.frozen? ⟨g, i, none⟩ = false := by
  rcases h.form with ⟨h1, _⟩ | ⟨g', cur, h1, h2, _⟩
  · cases h1
  · injection h1 with h1
    injection h1 with h1
    subst h1
    simp [World.frozen?, h2]
theorem RowN.drewN (h : RowN w e k A n c xs) (m : Nat) : RowN (w.drewN m) e k A n c xs := h.block fun _ _ => rfl
end

/-- The reference's dictionary at block q, its slots at block g. -/
structure RefB (w : World) (q g cap : Nat) (d : DD) (us : Nat → Int) (now : Int) : Prop where
  head : w.heap[q]? = some (.cells #[.slice (some ⟨g, 0, none⟩) d.room cap, .int .i64 now] 116 (0, 0))
  row : RowN w 136 2 (some ⟨g, 0, none⟩) d.room cap (pairs (keyAt d) us d.room)
  inv : RInv d us now
/-- .. and which blocks are its own; it was used at most N times. -/
def RefAt (w : World) (q : Nat) (d : DD) (N : Int) (S : Nat → Prop) : Prop := ∃ g cap us now, RefB w q g cap d us now ∧ now ≤ N ∧ ∀ b, S b ↔ b = q ∨ b = g
section
variable {w w' : World} {q g cap : Nat} {d : DD} {us : Nat → Int} {now N : Int} {S T : Nat → Prop}
theorem RefB.lt (h : RefB w q g cap d us now) : q < w.heap.size := (Array.getElem?_eq_some_iff.1 h.head).1
theorem RefB.glt (h : RefB w q g cap d us now) : g < w.heap.size := h.row.lt rfl
theorem RefB.c0 (h : RefB w q g cap d us now) : w.cell? ⟨q, 0, none⟩ = some (.slice (some ⟨g, 0, none⟩) d.room cap) := by simp [World.cell?, h.head]
theorem RefB.c1 (h : RefB w q g cap d us now) : w.cell? ⟨q, 1, none⟩ = some (.int .i64 now) := by simp [World.cell?, h.head]
theorem RefB.free (h : RefB w q g cap d us now) (i : Nat) : w.frozen? ⟨q, i, none⟩ = false := by simp [World.frozen?, h.head]
theorem RefB.ne (h : RefB w q g cap d us now) : q ≠ g := fun e => by
  subst e
  rcases h.row.form with ⟨h1, _⟩ | ⟨g', cur, h1, h2, _⟩
  · cases h1
  · injection h1 with h1
    injection h1 with h1
    subst h1
    rw [h.head] at h2
    injection h2 with h2
    injection h2 with _ h2
    exact absurd h2 (by decide)
theorem RefB.key (h : RefB w q g cap d us now) {i : Nat} (hi : i < d.room) : w.cell? ⟨g, i * 2, none⟩ = some (.string (keyAt d i)) := h.row.cell (pairs_key _ _ hi)
theorem RefB.used (h : RefB w q g cap d us now) {i : Nat} (hi : i < d.room) : w.cell? ⟨g, i * 2 + 1, none⟩ = some (.int .i64 (us i)) := h.row.cell (pairs_used _ _ hi)
theorem RefB.block (h : RefB w q g cap d us now) (h1 : w'.heap[q]? = w.heap[q]?) (h2 : w'.heap[g]? = w.heap[g]?) : RefB w' q g cap d us now :=
  ⟨h1.trans h.head, h.row.block (fun b hb => by injection hb with hb; subst hb; exact h2), h.inv⟩
theorem RefB.drewN (h : RefB w q g cap d us now) (n : Nat) : RefB (w.drewN n) q g cap d us now := h.block rfl rfl
theorem RefB.below (h : RefB w q g cap d us now) (hb : Below w.heap.size w w') : RefB w' q g cap d us now := h.block (hb.block q h.lt) (hb.block g h.glt)
theorem RefB.at (h : RefB w q g cap d us now) (hN : now ≤ N) : RefAt w q d N (fun b => b = q ∨ b = g) := ⟨g, cap, us, now, h, hN, fun _ => Iff.rfl⟩
theorem RefAt.kept (h : RefAt w q d N S) (hu : Upd w w' T) (hn : ∀ b, S b → ¬ T b) : RefAt w' q d N S := by
  obtain ⟨g, cap, us, now, hB, hN, hS⟩ := h
  exact ⟨g, cap, us, now, hB.block (hu.block q hB.lt (hn q ((hS q).2 (.inl rfl)))) (hu.block g hB.glt (hn g ((hS g).2 (.inr rfl)))), hN, hS⟩
theorem RefAt.lt (h : RefAt w q d N S) {b : Nat} (hb : S b) : b < w.heap.size := by
  obtain ⟨g, cap, us, now, hB, hN, hS⟩ := h
  rcases (hS b).1 hb with rfl | rfl
  · exact hB.lt
  · exact hB.glt
theorem RefAt.inv (h : RefAt w q d N S) : DInv d := by
  obtain ⟨g, cap, us, now, hB, hN, hS⟩ := h
  exact hB.inv.inv
theorem RefAt.more {M : Int} (h : RefAt w q d N S) (hm : N ≤ M) : RefAt w q d M S := by
  obtain ⟨g, cap, us, now, hB, hN, hS⟩ := h
  exact ⟨g, cap, us, now, hB, by omega, hS⟩
theorem RefAt.below (h : RefAt w q d N S) (hb : Below w.heap.size w w') : RefAt w' q d N S :=
  h.kept (Upd.of_below hb) (fun b hb => by have := h.lt hb; omega)
end

theorem infoSlot : (Try.prog.info? 136).map (fun i => (i.zero, i.size, i.bytes)) = some (some (.agg #[.string ByteArray.empty, .int .i64 0]), 2, 24) := by kernel_rfl
theorem made_pairs (n : Nat) : madeCells #[.string ByteArray.empty, .int .i64 0] (n * 2) = (pairs (fun _ => ByteArray.empty) (fun _ => 0) n).toArray := by
  apply Array.ext
  · rw [size_madeCells, List.size_toArray, pairs_length]
  · intro i h1 h2
    have h := pairs_at (fun _ => ByteArray.empty) (fun _ => 0) n i
    rw [size_madeCells] at h1
    rw [if_pos h1] at h
    have e : (pairs (fun _ => ByteArray.empty) (fun _ => 0) n).toArray[i] = if i % 2 = 0 then .string ByteArray.empty else .int .i64 0 := by
      have h3 : i < (pairs (fun _ => ByteArray.empty) (fun _ => 0) n).length := by simpa using h2
      rw [List.getElem?_eq_getElem h3] at h
      rw [List.getElem_toArray]
      exact Option.some.inj h
    rw [e]
    simp only [madeCells, Array.getElem_map, Array.getElem_range]
    by_cases hp : i % 2 = 0
    · rw [if_pos hp]
      show #[Value.string ByteArray.empty, .int .i64 0][i % 2]! = _
      rw [hp]; rfl
    · rw [if_neg hp]
      show #[Value.string ByteArray.empty, .int .i64 0][i % 2]! = _
      rw [show i % 2 = 1 by omega]; rfl
theorem make_slots (n : Nat) (hn : n ≤ 64) (w : World) :
    (Instr.makeSlice 114 (.int .i64 (n : Int)) (.int .i64 (n : Int))).run Try.prog w = .ok (.slice (some ⟨w.heap.size, 0, none⟩) n n) (w.alloc (.cells (pairs (fun _ => ByteArray.empty) (fun _ => 0) n).toArray 136)) := by
  obtain ⟨i, hi, hzz⟩ := Option.map_eq_some_iff.1 infoSlot
  simp only [Prod.mk.injEq] at hzz
  obtain ⟨hz, hs, hb⟩ := hzz
  have hr := run_make (P := Try.prog) w 114 136 i _ Try.underlying114 hi hz .i64 .i64 n n (by omega) (Int.le_refl _) (by rw [hb]; omega) (by omega)
  simp only [Int.toNat_natCast, hs] at hr
  rw [← made_pairs]
  exact hr

/-- The new dictionary. -/
theorem refNew_no (r : Int) (w : World) (h : r < 1 ∨ 64 < r) : Calls Try.prog 31 #[.int .i64 r] w fun e w' => e = .returned (.tuple #[.pointer none, .int .i64 1]) ∧ w = w' := by
  by_cases h1 : r < 1
  · clear h
    go_enter Try.func31, Try.ntmps31
    go_wp2
    go_ret2
    exact ⟨rfl, rfl⟩
  · have h2 : 64 < r := by omega
    clear h
    go_enter Try.func31, Try.ntmps31
    go_wp2
    go_ret2
    exact ⟨rfl, rfl⟩
/-- A dictionary that the callee made. -/
def RefNew (w : World) (d : DD) (N : Int) (p : Nat) (w' : World) : Prop := ∃ S, RefAt w' p d N S ∧ (∀ b, S b → w.heap.size ≤ b) ∧ Below w.heap.size w w'
theorem refNew_yes (r : Nat) (w : World) (h1 : 1 ≤ r) (h2 : r ≤ 64) : Calls Try.prog 31 #[.int .i64 r] w fun e w' => ∃ p, e = .returned (.tuple #[.pointer (some ⟨p, 0, none⟩), .int .i64 0]) ∧ RefNew w ⟨r, [], []⟩ 0 p w' := by
  have h1i : (1 : Int) ≤ r := by omega
  have h2i : (r : Int) ≤ 64 := by omega
  have HI := Lib.hid (RInv.new h1 h2 (fun _ => 0))
  have hmm := make_slots r h2
  obtain ⟨cs, hcs⟩ : ∃ cs, (pairs (fun _ => ByteArray.empty) (fun _ => 0) r).toArray = cs := ⟨_, rfl⟩
  rw [hcs] at hmm
  have HC := Lib.hid hcs
  clear hcs
  go_enter Try.func31, Try.ntmps31
  go_wp2
  go_ret2
  refine ⟨_, rfl, _, RefB.at (g := w.heap.size) (cap := r) (us := fun _ => 0) (now := 0) ⟨alloc_top (by rw [alloc_size]), ?_, HI.out⟩ (Int.le_refl _), ?_, ?_⟩
  · refine RowN.alloc ?_ _
    refine ⟨pairs_length _ _ _, .inr ⟨_, cs, rfl, heap_alloc_new w _, Nat.le_refl _, by unfold maxLen; show r ≤ _; omega, ?_, ?_⟩⟩
    · rw [← HC.out, List.size_toArray, pairs_length]
    · rw [← HC.out]
      show List.take (r * 2) (pairs (fun _ => ByteArray.empty) (fun _ => 0) r) = pairs (keyAt ⟨r, [], []⟩) (fun _ => 0) r
      rw [List.take_of_length_le (by simp [pairs_length])]
      exact pairs_congr (fun i _ => (keyAt_none (d := ⟨r, [], []⟩) (by simp)).symm) (fun _ _ => rfl)
  · rintro b (rfl | rfl)
    · exact Nat.le_succ _
    · exact Nat.le_refl _
  · exact ((Below.refl _ _).alloc (Nat.le_refl _) _).alloc (by rw [alloc_size]; omega) _

theorem refKey_yes (k : ByteArray) (w : World) (h : keyOk k) : Calls Try.prog 70 #[.string k] w fun e w' => e = .returned (.bool true) ∧ w = w' := by
  have h1 : (1 : Int) ≤ k.size := by have := h.1; omega
  have h2 : (k.size : Int) ≤ 64 := by have := h.2; omega
  clear h
  go_enter Try.func70, Try.ntmps70
  go_wp2
  go_ret
  exact ⟨by simp [h1, h2], rfl⟩
theorem refKey_no (k : ByteArray) (w : World) (h : ¬ keyOk k) (hm : k.size ≤ maxLen) : Calls Try.prog 70 #[.string k] w fun e w' => e = .returned (.bool false) ∧ w = w' := by
  unfold maxLen at hm
  unfold keyOk at h
  by_cases h1 : 1 ≤ k.size
  · have h2 : (64 : Int) < k.size := by omega
    clear h
    go_enter Try.func70, Try.ntmps70
    go_wp2
    go_ret
    exact ⟨by simp [h2], rfl⟩
  · have h2 : k.size < 1 := by omega
    clear h h1
    go_enter Try.func70, Try.ntmps70
    go_wp2
    go_ret
    exact ⟨rfl, rfl⟩

theorem tl_empty {k : ByteArray} (h : k ≠ ByteArray.empty) : k.toList.isEmpty = false := by
  cases hh : k.toList with
  | nil => exact absurd (tl_inj (hh.trans (show ([] : List UInt8) = ByteArray.empty.toList by rw [ByteArray.toList_eq]; rfl))) h
  | cons x l => rfl

set_option maxRecDepth 100000 in
theorem refLook_any {w : World} {q : Nat} {d : DD} {N : Int} {S : Nat → Prop} (h : RefAt w q d N S) (k : ByteArray) (hk : k.size ≤ maxLen) :
    Calls Try.prog 57 #[.pointer (some ⟨q, 0, none⟩), .string k] w fun e w' => e = .returned (.int .i64 (lookF d k)) ∧ w = w' := by
  obtain ⟨g, cap, us, now, hB, hN, hS⟩ := h
  have hinv := hB.inv.inv
  have hr64 := hinv.hi
  have hle := hinv.le
  have c0 := hB.c0
  have HB := Lib.hid hB
  obtain ⟨room, hroom⟩ : ∃ room, d.room = room := ⟨_, rfl⟩
  rw [hroom] at hr64 hle c0
  have HR := Lib.hid hroom
  have HI := Lib.hid hinv
  by_cases hm : k ∈ d.keys
  · obtain ⟨p, hp⟩ : ∃ p, posK d.keys k = p := ⟨_, rfl⟩
    have hpl : p < d.keys.length := by rw [← hp]; exact posK_lt hm
    have e : lookF d k = p := by unfold lookF; rw [if_pos hm, hp]
    have hke : keyAt d p = k := keyAt_some (by rw [← hp]; exact posK_get hm)
    have hlt : ∀ i, i < p → keyAt d i ≠ k := fun i hi e => by
      have h1 : d.keys[i]? = some k := by
        rw [List.getElem?_eq_getElem (by omega)]
        have := keyAt_some (d := d) (List.getElem?_eq_getElem (l := d.keys) (i := i) (by omega))
        rw [← this, e]
      have := posK_of hinv.nodup h1
      omega
    have hne : k ≠ ByteArray.empty := size_pos_ne (hinv.ok k hm).1
    have hb2 : (!k.toList.isEmpty) = true := by rw [tl_empty hne]; rfl
    have hpr : p < room := by omega
    rw [e]
    have HX := Lib.hid (And.intro hke hlt)
    clear hB hinv hm hp e hke hlt hne hroom hpl hle
    go_enter Try.func57, Try.ntmps57
    go_wp2
    go_loopg [5] (p + 1) (fun gk v5 wr => ∃ i : Nat, v5 = .int .i64 i ∧ gk + i = p + 1 ∧ i ≤ p ∧ w = wr)
    case atStart => exact ⟨0, rfl, rfl, Nat.zero_le _, rfl⟩
    case round =>
      obtain ⟨i, rfl, hi, hip, rfl⟩ := hrel
      have hir : i < room := by omega
      have hiri : (i : Int) < room := by omega
      have ck := HB.out.key (i := i) (by rw [HR.out]; exact hir)
      by_cases hii : i = p
      · subst hii
        rw [HX.out.1] at ck
        have hs := bytes_same k
        go_wp2
        go_ret
        exact ⟨rfl, rfl⟩
      · have hn := HX.out.2 i (by omega)
        have hnb : ((keyAt d i).toList == k.toList) = false := by rw [tl_beq]; exact decide_eq_false hn
        clear hn
        go_wp2
        go_roundg (p - i)
        case measure => omega
        case rel => exact ⟨i + 1, by go_num, by omega, by omega, rfl⟩
  · have e : lookF d k = -1 := lookF_no hm
    have hno : ∀ i, i < room → keyAt d i = k → k = ByteArray.empty := fun i hi e => by
      by_cases hl : i < d.keys.length
      · exfalso
        apply hm
        rw [← e, keyAt_some (List.getElem?_eq_getElem hl)]
        exact List.getElem_mem _
      · rw [← e]; exact keyAt_none (by omega)
    rw [e]
    have HX := Lib.hid hno
    clear hB hinv hm e hno hroom hle
    go_enter Try.func57, Try.ntmps57
    go_wp2
    go_loopg [5] room (fun gk v5 wr => ∃ i : Nat, v5 = .int .i64 i ∧ gk + i = room ∧ w = wr)
    case atStart => exact ⟨0, rfl, rfl, rfl⟩
    case round =>
      obtain ⟨i, rfl, hi, rfl⟩ := hrel
      by_cases hir : i < room
      · have hiri : (i : Int) < room := by omega
        have ck := HB.out.key (i := i) (by rw [HR.out]; exact hir)
        by_cases hii : keyAt d i = k
        · obtain rfl := HX.out i hir hii
          rw [hii] at ck
          have hs := bytes_same (⟨#[]⟩ : ByteArray)
          have hs2 := bytes_bne (⟨#[]⟩ : ByteArray)
          clear hii
          go_wp2
          go_roundg (room - i - 1)
          case measure => omega
          case rel => exact ⟨i + 1, by go_num, by omega, rfl⟩
        · have hnb : ((keyAt d i).toList == k.toList) = false := by rw [tl_beq]; exact decide_eq_false hii
          clear hii
          go_wp2
          go_roundg (room - i - 1)
          case measure => omega
          case rel => exact ⟨i + 1, by go_num, by omega, rfl⟩
      · have hiri : (room : Int) ≤ i := by omega
        go_wp2
        go_ret
        exact ⟨rfl, rfl⟩
end Go.Proofs.Ytipiohkpdkandaa
