/-
  The reference's dictionary: free, Use, Touch: walks. Conditions: none.
-/
import Derived.Test.YtipiohkpdkandaaRefD
import Derived.Deep.QuietTactic
import Derived.BigQuiet
namespace Go.Proofs.Ytipiohkpdkandaa
set_option linter.unusedVariables false
set_option linter.unusedSimpArgs false
open Go.RowKit

def FreeIs (w : World) (x : Nat) (e : Ending) (w' : World) : Prop := e = .returned (.int .i64 (x : Int)) ∧ ∃ n, w' = w.drewN n
set_option maxRecDepth 100000 in
set_option maxHeartbeats 1000000 in
theorem refFree_any {w : World} {q g cap : Nat} {d : DD} {us : Nat → Int} {now : Int} (hB : RefB w q g cap d us now) :
    Calls Try.prog 71 #[.pointer (some ⟨q, 0, none⟩)] w (FreeIs w (freeF d)) := by
  have hinv := hB.inv.inv
  have hr64 := hinv.hi
  have hlo := hinv.lo
  have hle := hinv.le
  have HB := Lib.hid hB
  have c0 := fun n => (hB.drewN n).c0
  obtain ⟨room, hroom⟩ : ∃ room, d.room = room := ⟨_, rfl⟩
  obtain ⟨L, hL⟩ : ∃ L, d.keys.length = L := ⟨_, rfl⟩
  rw [hroom] at hr64 hle hlo
  simp only [hroom] at c0
  rw [hL] at hle
  have HR := Lib.hid hroom
  have HL := Lib.hid hL
  obtain ⟨fr, hfr⟩ : ∃ fr, freeF d = fr := ⟨_, rfl⟩
  rw [hfr]
  have HF := Lib.hid hfr
  have HI := Lib.hid hinv
  clear hB hinv hroom hL hfr
  go_enter Try.func71, Try.ntmps71
  go_wp2_with fail
  go_loopg [3, 4] room (fun gk v3 v4 wr => ∃ (i b n : Nat), v4 = .int .i64 i ∧ v3 = .int .i64 b ∧ gk + i = room ∧ i ≤ L ∧ b < room ∧ Hid (∀ t, t < i → us b ≤ us t) ∧ wr = w.drewN n)
  case atStart => exact ⟨0, 0, 0, rfl, rfl, rfl, Nat.zero_le _, by omega, (fun t h => by omega), rfl⟩
  case round =>
    obtain ⟨i, b, n, rfl, rfl, hi, hiL, hb, hmin, rfl⟩ := hrel
    by_cases hir : i < room
    · have hiri : (i : Int) < room := by omega
      have hbi : (b : Int) < room := by omega
      have ck := fun n => (HB.out.drewN n).key (i := i) (by rw [HR.out]; exact hir)
      by_cases hiL2 : i < L
      · have hne : (keyAt d i).toList.isEmpty = false := tl_empty (size_pos_ne (keyAt_ok HI.out (by rw [HL.out]; exact hiL2)).1)
        have cu := fun n => (HB.out.drewN n).used (i := i) (by rw [HR.out]; exact hir)
        have cb := fun n => (HB.out.drewN n).used (i := b) (by rw [HR.out]; exact hb)
        by_cases hlt : us i < us b
        · go_wp2_with fail
          go_quiet (fail)
          go_wp2
          go_roundg (room - i - 1)
          case measure => omega
          case rel =>
            refine ⟨i + 1, i, _, by go_num, rfl, by omega, by omega, by omega, (fun t ht => ?_), rfl⟩
            by_cases e : t = i
            · rw [e]; exact Int.le_refl _
            · have := hmin.out t (by omega); omega
        · go_wp2_with fail
          go_quiet (fail)
          go_wp2
          go_roundg (room - i - 1)
          case measure => omega
          case rel =>
            refine ⟨i + 1, b, _, by go_num, rfl, by omega, by omega, hb, (fun t ht => ?_), rfl⟩
            by_cases e : t = i
            · rw [e]; omega
            · exact hmin.out t (by omega)
      · obtain rfl : i = L := by omega
        have e : fr = i := by
          rw [← HF.out, ← HL.out]
          unfold freeF
          rw [if_pos (by rw [HL.out, HR.out]; exact hir)]
        simp only [keyAt_none (show d.keys.length ≤ i by rw [HL.out]; exact Nat.le_refl _)] at ck
        subst e
        go_wp2
        go_ret
        exact ⟨rfl, n, rfl⟩
    · have hiri : (room : Int) ≤ i := by omega
      have e : fr = b := by
        rw [← HF.out]
        unfold freeF
        rw [if_neg (by rw [HL.out, HR.out]; omega)]
        exact (HB.out.inv.oldest (by rw [HL.out, HR.out]; omega) (by rw [HR.out]; exact hb) (fun t ht => hmin.out t (by rw [HR.out] at ht; omega))).symm
      subst e
      go_wp2
      go_ret
      exact ⟨rfl, n, rfl⟩

def RUse (w : World) (q : Nat) (d : DD) (N : Int) (k : ByteArray) (S : Nat → Prop) (e : Ending) (w' : World) : Prop :=
  e = .returned (.tuple #[.int .i64 (useG d k).2.1, .bool (useG d k).2.2.1, .int .i64 (useG d k).2.2.2]) ∧ RefAt w' q (useG d k).1 (N + 1) S ∧ Upd w w' S
theorem refUse_no {w : World} {q : Nat} {d : DD} {N : Int} {S : Nat → Prop} (h : RefAt w q d N S) (k : ByteArray) (hk : ¬ keyOk k) (hm : k.size ≤ maxLen) :
    Calls Try.prog 58 #[.pointer (some ⟨q, 0, none⟩), .string k] w (RUse w q d N k S) := by
  have hkey := fun w => refKey_no k w hk hm
  have H := Lib.hid h
  have HK := Lib.hid hk
  clear h hk hm
  go_enter Try.func58, Try.ntmps58
  go_wp2_with fail
  refine (hkey _).mono ?_
  rintro e w1 ⟨rfl, rfl⟩
  clear hkey
  go_wp2
  go_ret3
  exact ⟨by rw [useG_no HK.out]; rfl, by rw [useG_no HK.out]; exact H.out.more (by omega), Upd.refl _ _⟩
/-- the head and the slots, whatever they mean -/
structure RefR (w : World) (q g cap room : Nat) (f : Nat → ByteArray) (us : Nat → Int) (now : Int) : Prop where
  head : w.heap[q]? = some (.cells #[.slice (some ⟨g, 0, none⟩) room cap, .int .i64 now] 116 (0, 0))
  row : RowN w 136 2 (some ⟨g, 0, none⟩) room cap (pairs f us room)
section
variable {w w' : World} {q g cap room : Nat} {f : Nat → ByteArray} {us : Nat → Int} {now : Int}
theorem RefB.raw {d : DD} (h : RefB w q g cap d us now) : RefR w q g cap d.room (keyAt d) us now := ⟨h.head, h.row⟩
theorem RefR.block (h : RefR w q g cap room f us now) (h1 : w'.heap[q]? = w.heap[q]?) (h2 : w'.heap[g]? = w.heap[g]?) : RefR w' q g cap room f us now :=
  ⟨h1.trans h.head, h.row.block (fun b hb => by injection hb with hb; subst hb; exact h2)⟩
theorem RefR.drew (h : RefR w q g cap room f us now) : RefR w.drew q g cap room f us now := h.block rfl rfl
theorem RefR.drewN (h : RefR w q g cap room f us now) (n : Nat) : RefR (w.drewN n) q g cap room f us now := h.block rfl rfl
theorem RefR.c0 (h : RefR w q g cap room f us now) : w.cell? ⟨q, 0, none⟩ = some (.slice (some ⟨g, 0, none⟩) room cap) := by simp [World.cell?, h.head]
theorem RefR.c1 (h : RefR w q g cap room f us now) : w.cell? ⟨q, 1, none⟩ = some (.int .i64 now) := by simp [World.cell?, h.head]
theorem RefR.free (h : RefR w q g cap room f us now) (i : Nat) : w.frozen? ⟨q, i, none⟩ = false := by simp [World.frozen?, h.head]
theorem RefR.ne (h : RefR w q g cap room f us now) : q ≠ g := fun e => by
  subst e
  rcases h.row.form with ⟨h1, _⟩ | ⟨g', cur, h1, h2, _⟩
  · cases h1
  · injection h1 with h1
    injection h1 with h1
    subst h1
    rw [h.head] at h2
    injection h2 with h2
    injection h2 with _ h2
    exact absurd h2 (by decide)
theorem RefR.key (h : RefR w q g cap room f us now) {i : Nat} (hi : i < room) : w.cell? ⟨g, i * 2, none⟩ = some (.string (f i)) := h.row.cell (pairs_key _ _ hi)
theorem RefR.used (h : RefR w q g cap room f us now) {i : Nat} (hi : i < room) : w.cell? ⟨g, i * 2 + 1, none⟩ = some (.int .i64 (us i)) := h.row.cell (pairs_used _ _ hi)
theorem RefR.setNow (h : RefR w q g cap room f us now) (x : Int) : RefR (w.setCell ⟨q, 1, none⟩ (.int .i64 x)) q g cap room f us x :=
  ⟨by simp [World.setCell, Array.getElem?_modify, h.head], h.row.block (fun b hb => by injection hb with hb; subst hb; exact Below.heap_setCell _ _ _ _ (fun e => h.ne e.symm))⟩
theorem RefR.setUsed (h : RefR w q g cap room f us now) {i : Nat} (hi : i < room) (x : Int) : RefR (w.setCell ⟨g, i * 2 + 1, none⟩ (.int .i64 x)) q g cap room f (upd us i x) now :=
  ⟨(Below.heap_setCell _ _ _ _ h.ne).trans h.head, by have := h.row.store (i * 2 + 1) (.int .i64 x); rwa [pairs_set_used _ _ hi] at this⟩
theorem RefR.setKey (h : RefR w q g cap room f us now) {i : Nat} (hi : i < room) (k : ByteArray) : RefR (w.setCell ⟨g, i * 2, none⟩ (.string k)) q g cap room (upd f i k) us now :=
  ⟨(Below.heap_setCell _ _ _ _ h.ne).trans h.head, by have := h.row.store (i * 2) (.string k); rwa [pairs_set_key _ _ hi] at this⟩
theorem RefR.toB {d : DD} (h : RefR w q g cap room f us now) (hr : d.room = room) (hf : ∀ i, keyAt d i = f i) (hi : RInv d us now) : RefB w q g cap d us now := by
  subst hr
  exact ⟨h.head, by rw [pairs_congr (g := f) (vs := us) (fun i _ => hf i) (fun _ _ => rfl)]; exact h.row, hi⟩
end
theorem upd_drewN {w : World} (n : Nat) : Upd w (w.drewN n) (fun _ => False) := ⟨rfl, rfl, rfl, Nat.le_refl _, fun _ _ _ => rfl⟩
set_option maxRecDepth 100000 in
set_option maxHeartbeats 1000000 in
theorem refUse_yes {w : World} {q : Nat} {d : DD} {N : Int} {S : Nat → Prop} (h : RefAt w q d N S) (hN : N ≤ 4611686018427387903) (k : ByteArray) (hk : keyOk k) :
    Calls Try.prog 58 #[.pointer (some ⟨q, 0, none⟩), .string k] w (RUse w q d N k S) := by
  have hkm : k.size ≤ maxLen := by have := hk.2; unfold maxLen; omega
  have hkey := fun w => refKey_yes k w hk
  have hlook := refLook_any h k hkm
  have HK := Lib.hid hk
  obtain ⟨g, cap, us, now, hB, hNow, hS⟩ := h
  have hfree := refFree_any hB
  have HB := Lib.hid hB
  have n0 := hB.inv.n0
  have n1 : now ≤ 4611686018427387903 := by omega
  have hsr := (keyAt_use hB.inv.inv hk).1
  have hr64 := hB.inv.inv.hi
  obtain ⟨s, hs⟩ : ∃ s, slotU d k = s := ⟨_, rfl⟩
  rw [hs] at hsr
  obtain ⟨room, hroom⟩ : ∃ room, d.room = room := ⟨_, rfl⟩
  rw [hroom] at hsr hr64
  have HS := Lib.hid (And.intro hs (And.intro hroom hS))
  have hsri : (s : Int) < room := by omega
  have hways : (lookF d k = s ∧ useG d k = ((useF d k).1, s, true, 0)) ∨ (lookF d k = -1 ∧ freeF d = s ∧ useG d k = ((useF d k).1, s, false, 0)) := by
    by_cases hm : k ∈ d.keys
    · left
      have h2 : (useF d k).2.2 = true := by unfold useF; rw [if_pos hm]
      refine ⟨?_, ?_⟩
      · unfold lookF
        rw [if_pos hm, ← hs]
        unfold slotU useF
        rw [if_pos hm]
      · unfold slotU at hs
        rw [useG, if_pos hk, hs, h2]
    · right
      have h2 := (freeF_use hm).2
      refine ⟨by unfold lookF; rw [if_neg hm], by rw [← (freeF_use hm).1, hs], ?_⟩
      unfold slotU at hs
      rw [useG, if_pos hk, hs, h2]
  clear hs hroom hS hB hk
  rcases hways with ⟨e1, hd⟩ | ⟨e1, e2, hd⟩
  all_goals
    rw [e1] at hlook
    have HD := Lib.hid hd
    clear hd e1
    go_enter Try.func58, Try.ntmps58
    go_wp2_with fail
    refine (hkey _).mono ?_
    rintro e w1 ⟨rfl, rfl⟩
    clear hkey
    go_wp2_with fail
    refine hlook.mono ?_
    rintro e w1 ⟨rfl, hw1⟩
    clear hlook
    first
    | (rw [e2] at hfree
       subst hw1
       clear e2
       go_wp2_with fail
       refine hfree.mono ?_
       rintro e w1 ⟨rfl, n, hw1⟩
       have hbx : RefB w1 q g cap d us now ∧ Upd w w1 (fun _ => False) := (by rw [hw1]; exact ⟨HB.out.drewN n, upd_drewN n⟩)
       clear hfree hw1)
    | (have hbx : RefB w1 q g cap d us now ∧ Upd w w1 (fun _ => False) := (by rw [← hw1]; exact ⟨HB.out, Upd.refl _ _⟩)
       clear hfree hw1)
    have c1 := hbx.1.c1
    have f1 := hbx.1.free 1
    have c0 := hbx.1.c0
    rw [HS.out.2.1] at c0
    have HBX := Lib.hid hbx
    clear hbx
    clear c0
    go_wp2_with fail
    obtain ⟨w2, hw2⟩ : ∃ w2, w1.setCell ⟨q, 1, none⟩ (.int .i64 (now + 1)) = w2 := ⟨_, rfl⟩
    have hr2 : RefR w2 q g cap room (keyAt d) us (now + 1) := by rw [← hw2, ← HS.out.2.1]; exact HBX.out.1.raw.setNow _
    have hu2 : Hid (Upd w w2 (fun b => b = q ∨ b = g)) := by rw [← hw2]; exact (HBX.out.2.mono (fun _ _ h => h.elim)).setCell (a := ⟨q, 1, none⟩) (fun _ => .inl rfl) _
    rw [hw2]
    clear hw2 c1 f1 HBX
    have c0 := hr2.c0
    have c1 := hr2.c1
    have HR2 := Lib.hid hr2
    clear hr2
    go_still_tail 12, (by kernel_rfl)
    change wpList _ _ _ _ _ w2.drew
    obtain ⟨w3, hw3⟩ : ∃ w3, w2.drew = w3 := ⟨_, rfl⟩
    have hr3 : RefR w3 q g cap room (keyAt d) us (now + 1) := by rw [← hw3]; exact HR2.out.drew
    have hu3 : Hid (Upd w w3 (fun b => b = q ∨ b = g)) := by rw [← hw3]; exact hu2.out.drew
    rw [hw3]
    clear hw3 c0 c1
    have k0 := hr3.key hsr
    have k1 := hr3.used hsr
    have f0 := hr3.row.free (s * 2)
    have f1 := hr3.row.free (s * 2 + 1)
    have HR3 := Lib.hid hr3
    clear hr3
    go_wp2
    go_ret3
    have hr4 := (HR3.out.setKey hsr k).setUsed hsr (now + 1)
    have hu4 := (hu3.out.setCell (a := ⟨g, s * 2, none⟩) (fun _ => .inr rfl) (.string k)).setCell (a := ⟨g, s * 2 + 1, none⟩) (fun _ => .inr rfl) (.int .i64 (now + 1))
    have hku := keyAt_use HB.out.inv.inv HK.out
    have hri := HB.out.inv.use HK.out
    rw [HS.out.1] at hku hri
    refine ⟨by rw [HD.out]; rfl, ?_, hu4.mono (fun b _ h => (HS.out.2.2 b).2 h)⟩
    rw [HD.out]
    exact ⟨g, cap, _, now + 1, hr4.toB (hku.2.1.trans HS.out.2.1) hku.2.2 hri, by omega, HS.out.2.2⟩
theorem refUse_any {w : World} {q : Nat} {d : DD} {N : Int} {S : Nat → Prop} (h : RefAt w q d N S) (hN : N ≤ 4611686018427387903) (k : ByteArray) (hm : k.size ≤ maxLen) :
    Calls Try.prog 58 #[.pointer (some ⟨q, 0, none⟩), .string k] w (RUse w q d N k S) := by
  by_cases hk : keyOk k
  · exact refUse_yes h hN k hk
  · exact refUse_no h k hk hm

def RTouch (w : World) (q : Nat) (d : DD) (N : Int) (s : Int) (S : Nat → Prop) (e : Ending) (w' : World) : Prop :=
  e = .returned (.tuple #[.string (touchG d s).2.1, .int .i64 (touchG d s).2.2]) ∧ RefAt w' q (touchG d s).1 (N + 1) S ∧ Upd w w' S
theorem touchG_no {d : DD} {s : Int} (h : ¬ (0 ≤ s ∧ s < d.keys.length)) : touchG d s = (d, ByteArray.empty, 50) := by rw [touchG, if_neg h]
set_option maxRecDepth 100000 in
set_option maxHeartbeats 1000000 in
theorem refTouch_any {w : World} {q : Nat} {d : DD} {N : Int} {S : Nat → Prop} (h : RefAt w q d N S) (hN : N ≤ 4611686018427387903) (s : Int) :
    Calls Try.prog 59 #[.pointer (some ⟨q, 0, none⟩), .int .i64 s] w (RTouch w q d N s S) := by
  have H := Lib.hid h
  obtain ⟨g, cap, us, now, hB, hNow, hS⟩ := h
  have HB := Lib.hid hB
  have n0 := hB.inv.n0
  have n1 : now ≤ 4611686018427387903 := by omega
  have hr64 := hB.inv.inv.hi
  have hle := hB.inv.inv.le
  obtain ⟨room, hroom⟩ : ∃ room, d.room = room := ⟨_, rfl⟩
  obtain ⟨L, hL⟩ : ∃ L, d.keys.length = L := ⟨_, rfl⟩
  have c0 := hB.c0
  rw [hroom] at hr64 hle c0
  rw [hL] at hle
  have HS := Lib.hid (And.intro hL (And.intro hroom hS))
  by_cases h0 : s < 0
  · have hd := Lib.hid (touchG_no (d := d) (s := s) (by omega))
    clear hB hS hroom hL
    go_enter Try.func59, Try.ntmps59
    go_wp2
    go_ret2
    exact ⟨by rw [hd.out]; rfl, by rw [hd.out]; exact H.out.more (by omega), Upd.refl _ _⟩
  · obtain ⟨t, rfl⟩ := Int.eq_ofNat_of_zero_le (by omega : 0 ≤ s)
    by_cases h1 : room ≤ t
    · have h1i : (room : Int) ≤ t := by omega
      have hd := Lib.hid (touchG_no (d := d) (s := (t : Int)) (by omega))
      clear hB hS hroom hL h0
      go_enter Try.func59, Try.ntmps59
      go_wp2
      go_ret2
      exact ⟨by rw [hd.out]; rfl, by rw [hd.out]; exact H.out.more (by omega), Upd.refl _ _⟩
    · have htr : t < room := by omega
      have htri : (t : Int) < room := by omega
      have ck := hB.key (i := t) (by rw [hroom]; exact htr)
      by_cases h2 : L ≤ t
      · have hd := Lib.hid (touchG_no (d := d) (s := (t : Int)) (by omega))
        rw [keyAt_none (by rw [hL]; exact h2)] at ck
        clear hB hS hroom hL h0 h1
        go_enter Try.func59, Try.ntmps59
        go_wp2
        go_ret2
        exact ⟨by rw [hd.out]; rfl, by rw [hd.out]; exact H.out.more (by omega), Upd.refl _ _⟩
      · have htL : t < d.keys.length := by omega
        have hne : (keyAt d t).toList.isEmpty = false := tl_empty (size_pos_ne (keyAt_ok hB.inv.inv htL).1)
        have hd : Hid (touchG d (t : Int) = (touchF d t, keyAt d t, 0)) := by
          show _ = _
          rw [touchG, if_pos (by omega)]
          rfl
        have HTL := Lib.hid htL
        have c1 := hB.c1
        have f1 := hB.free 1
        clear hB hS hroom hL h0 h1 h2 htL
        go_enter Try.func59, Try.ntmps59
        go_wp2_with fail
        obtain ⟨w2, hw2⟩ : ∃ w2, w.setCell ⟨q, 1, none⟩ (.int .i64 (now + 1)) = w2 := ⟨_, rfl⟩
        have hr2 : RefR w2 q g cap room (keyAt d) us (now + 1) := by rw [← hw2, ← HS.out.2.1]; exact HB.out.raw.setNow _
        have hu2 : Hid (Upd w w2 (fun b => b = q ∨ b = g)) := by rw [← hw2]; exact (Upd.refl _ _).setCell (a := ⟨q, 1, none⟩) (fun _ => .inl rfl) _
        rw [hw2]
        clear hw2 c1 f1 c0 ck
        have c0 := hr2.c0
        have c1 := hr2.c1
        have HR2 := Lib.hid hr2
        clear hr2
        go_still_tail 11, (by kernel_rfl)
        change wpList _ _ _ _ _ w2.drew
        obtain ⟨w3, hw3⟩ : ∃ w3, w2.drew = w3 := ⟨_, rfl⟩
        have hr3 : RefR w3 q g cap room (keyAt d) us (now + 1) := by rw [← hw3]; exact HR2.out.drew
        have hu3 : Hid (Upd w w3 (fun b => b = q ∨ b = g)) := by rw [← hw3]; exact hu2.out.drew
        rw [hw3]
        clear hw3 c0 c1
        have k1 := hr3.used htr
        have f1 := hr3.row.free (t * 2 + 1)
        have hr4 := hr3.setUsed htr (now + 1)
        have c0 := hr4.c0
        have ck := hr4.key htr
        have HR4 := Lib.hid hr4
        clear hr3 hr4
        go_wp2
        go_ret2
        have hu4 := hu3.out.setCell (a := ⟨g, t * 2 + 1, none⟩) (fun _ => .inr rfl) (.int .i64 (now + 1))
        refine ⟨by rw [hd.out]; rfl, ?_, hu4.mono (fun b _ h => (HS.out.2.2 b).2 h)⟩
        rw [hd.out]
        exact ⟨g, cap, _, now + 1, HR4.out.toB HS.out.2.1 (fun _ => rfl) (HB.out.inv.touch HTL.out), by omega, HS.out.2.2⟩
end Go.Proofs.Ytipiohkpdkandaa
