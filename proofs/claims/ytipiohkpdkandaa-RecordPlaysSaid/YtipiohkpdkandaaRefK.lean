/-
  The reference's dictionary: Keys: walk. Conditions: none.
-/
import Derived.Test.YtipiohkpdkandaaRefU
namespace Go.Proofs.Ytipiohkpdkandaa
set_option linter.unusedVariables false
set_option linter.unusedSimpArgs false
open Go.RowKit

theorem befF_bd {d : DD} {us : Nat → Int} {now : Int} (h : RInv d us now) (j : Nat) (hj : j ≤ d.order.length) : befF d us now j ≤ now + 1 := by
  cases j with
  | zero => exact Int.le_refl _
  | succ j =>
    show us (d.order[j]?.getD 0) ≤ now + 1
    rw [List.getElem?_eq_getElem (by omega : j < d.order.length)]
    have := h.le _ (List.getElem_mem (l := d.order) (n := j) (by omega))
    show us (d.order[j]'(by omega)) ≤ now + 1
    omega

set_option maxRecDepth 100000 in
set_option maxHeartbeats 4000000 in
theorem refKeys_any {w : World} {q : Nat} {d : DD} {N : Int} {S : Nat → Prop} (h : RefAt w q d N S) (hN : N ≤ 4611686018427387903) :
    Calls Try.prog 60 #[.pointer (some ⟨q, 0, none⟩)] w (StrsNew w (recent d) d.keys.length) := by
  obtain ⟨g, cap, us, now, hB, hNow, hS⟩ := h
  have n0 := hB.inv.n0
  have n1 : now ≤ 4611686018427387903 := by omega
  have hr64 := hB.inv.inv.hi
  have hle := hB.inv.inv.le
  have hol := hB.inv.inv.len
  have HB := Lib.hid hB
  obtain ⟨room, hroom⟩ : ∃ room, d.room = room := ⟨_, rfl⟩
  obtain ⟨L, hL⟩ : ∃ L, d.keys.length = L := ⟨_, rfl⟩
  have c1 := hB.c1
  rw [hL] at hle hol ⊢
  rw [hroom] at hr64 hle
  have HL := Lib.hid hL
  have HR := Lib.hid hroom
  have HO := Lib.hid hol
  clear hB hS hroom hL hol
  go_enter Try.func60, Try.ntmps60
  go_wp2_with fail
  go_loopg [3, 4] (L + 1) (fun gk v3 v4 wr => ∃ (j c : Nat) (A : Option Addr), v3 = .slice A j c ∧ v4 = .int .i64 (befF d us now j) ∧ gk + j = L + 1 ∧ j ≤ L ∧ Row wr 9 A j c (strs ((recent d).take j)) ∧ (∀ g, blk A = some g → w.heap.size ≤ g) ∧ Below w.heap.size w wr)
  case atStart => exact ⟨0, 0, none, rfl, rfl, rfl, Nat.zero_le _, Row.nil _ _, (fun g h => by cases h), Below.refl _ _⟩
  case round =>
    clear c1
    obtain ⟨j, c, A, rfl, rfl, hj, hjL, hr, hA, hb⟩ := hrel
    obtain ⟨w0, hw0⟩ : ∃ w0, w0 = wr := ⟨_, rfl⟩
    subst hw0
    have hB := HB.out.below hb
    have c0 := fun n => (hB.drewN n).c0
    simp only [HR.out] at c0
    have HB0 := Lib.hid hB
    have HH := Lib.hid (And.intro hr (And.intro hA hb))
    obtain ⟨bef, hbef⟩ : ∃ bef, befF d us now j = bef := ⟨_, rfl⟩
    rw [hbef]
    have HBE := Lib.hid hbef
    clear hB hr hA hb hbef
    go_wp2_with fail
    go_loopg [5, 6] room (fun gk2 v5 v6 wq => ∃ (i n : Nat) (b : Int), v6 = .int .i64 i ∧ v5 = .int .i64 b ∧ gk2 + i = room ∧ Hid (Best d us bef i b) ∧ wq = w0.drewN n)
    case atStart => exact ⟨0, 0, -1, rfl, rfl, rfl, .inl ⟨rfl, fun t ht => by omega⟩, rfl⟩
    case round =>
      obtain ⟨i, n, b, rfl, rfl, hi, hbest, rfl⟩ := hrel
      by_cases hir : i < room
      · have hiri : (i : Int) < room := by omega
        have ck := fun n => (HB0.out.drewN n).key (i := i) (by rw [HR.out]; exact hir)
        have cu := fun n => (HB0.out.drewN n).used (i := i) (by rw [HR.out]; exact hir)
        by_cases hiL : i < L
        · have hne : (!(keyAt d i).toList.isEmpty) = true := by rw [tl_empty (size_pos_ne (keyAt_ok HB.out.inv.inv (by rw [HL.out]; exact hiL)).1)]; rfl
          by_cases hub : us i < bef
          · have hval : Hid (Val d us bef i) := ⟨by rw [HL.out]; exact hiL, hub⟩
            have hbb : b = -1 ∨ ∃ s : Nat, b = s ∧ s < room := by
              rcases hbest.out with ⟨h, _⟩ | ⟨s, h, h2, _⟩
              · exact .inl h
              · exact .inr ⟨s, h, by omega⟩
            rcases hbb with rfl | ⟨s, rfl, hsr⟩
            · go_wp2_with fail
              go_quiet (fail)
              go_wp2
              go_roundg (room - i - 1)
              case measure => omega
              case rel => exact ⟨i + 1, _, i, by go_num, rfl, by omega, hbest.out.first hval.out, rfl⟩
            · have cs := fun n => (HB0.out.drewN n).used (i := s) (by rw [HR.out]; exact hsr)
              have hsri : (s : Int) < room := by omega
              by_cases hus : us s < us i
              · go_wp2_with fail
                go_quiet (fail)
                go_wp2
                go_roundg (room - i - 1)
                case measure => omega
                case rel => exact ⟨i + 1, _, i, by go_num, rfl, by omega, hbest.out.more hval.out hus, rfl⟩
              · go_wp2_with fail
                go_quiet (fail)
                go_wp2
                go_roundg (room - i - 1)
                case measure => omega
                case rel => exact ⟨i + 1, _, s, by go_num, rfl, by omega, hbest.out.less (by omega), rfl⟩
          · have hval : Hid (¬ Val d us bef i) := fun h => hub h.2
            have hdb : decide (us i < bef) = false := decide_eq_false hub
            go_wp2_with fail
            go_quiet (fail)
            go_wp2
            go_roundg (room - i - 1)
            case measure => omega
            case rel => exact ⟨i + 1, _, b, by go_num, rfl, by omega, hbest.out.no hval.out, rfl⟩
        · have hval : Hid (¬ Val d us bef i) := fun h => hiL (by rw [← HL.out]; exact h.1)
          simp only [keyAt_none (show d.keys.length ≤ i by rw [HL.out]; omega)] at ck
          go_wp2_with fail
          go_quiet (fail)
          go_wp2
          go_roundg (room - i - 1)
          case measure => omega
          case rel => exact ⟨i + 1, _, b, by go_num, rfl, by omega, hbest.out.no hval.out, rfl⟩
      · obtain rfl : i = room := by omega
        have hbest2 := hbest.out
        rw [← HBE.out] at hbest2
        have hbe := best_end HB.out.inv (j := j) (by rw [HO.out]; exact hjL) (by rw [HR.out]; exact hbest2)
        rw [HO.out] at hbe
        clear hbest hbest2
        rcases hbe with ⟨rfl, rfl⟩ | ⟨s, hjl, rfl, hos, hsk⟩
        · have HF : Hid (Row (w0.drewN n) 9 A j c (strs (recent d)) ∧ (∀ g, blk A = some g → w.heap.size ≤ g) ∧ Below w.heap.size w (w0.drewN n)) := by
            have ht : (recent d).take j = recent d := List.take_of_length_le (by rw [recent_length HB.out.inv.inv, HL.out]; exact Nat.le_refl _)
            have h1 := HH.out.1
            rw [ht] at h1
            exact ⟨h1.drewN n, HH.out.2.1, below_drewN HH.out.2.2 n⟩
          clear HH
          go_wp2
          go_ret
          exact ⟨A, c, rfl, HF.out⟩
        · have hsr : s < i := by have := HB.out.inv.inv.le; rw [HR.out] at this; omega
          have hsri : (s : Int) < i := by omega
          obtain ⟨key, hkey⟩ : ∃ key, d.keys[s]? = some key := ⟨_, List.getElem?_eq_getElem hsk⟩
          have ck := fun n => (HB0.out.drewN n).key (i := s) (by rw [HR.out]; exact hsr)
          simp only [keyAt_some hkey] at ck
          have HT := Lib.hid (take_succ_get (recent_get hos hkey))
          have HBF := Lib.hid (befF_succ (us := us) (now := now) hos)
          have hr := HH.out.1.drewN n
          have hb0 : Hid (Below w.heap.size w (w0.drewN n)) := below_drewN HH.out.2.2 n
          have hjL64 : j + 1 ≤ 65 := by have := HB.out.inv.inv.le; rw [HR.out, HL.out] at this; omega
          clear hos hkey hsk
          go_wp2_with (at_builtin; go_must (refine row_append1 rfl (.tmp 69) (.tmp 78) 43 9 (.string ByteArray.empty) 16 rfl Try.underlying43 infoStr rfl (by decide) A j c (strs ((recent d).take j)) (.string key) rfl rfl rfl hr (by omega) ?_))
          intro A1 c1' w1 a1 a2 a3
          have hB1 := HB0.out.block (w' := w1) ((a2.block q HB0.out.lt (fun e => by have := HH.out.2.1 q e; have := HB.out.lt; omega)).trans rfl) ((a2.block g HB0.out.glt (fun e => by have := HH.out.2.1 g e; have := HB.out.glt; omega)).trans rfl)
          have c0' := hB1.c0
          rw [HR.out] at c0'
          have cu := hB1.used (i := s) (by rw [HR.out]; exact hsr)
          have HX := Lib.hid (And.intro a1 (And.intro a2 a3))
          clear a1 a2 a3 hr hB1 ck c0
          go_wp2
          go_roundg (L - j)
          case measure => omega
          case rel =>
            refine ⟨j + 1, c1', A1, by go_num, by rw [HBF.out], by omega, by omega, ?_, ?_, ?_⟩
            · rw [HT.out]
              have := HX.out.1
              rwa [show strs (List.take j (recent d) ++ [key]) = strs (List.take j (recent d)) ++ [.string key] by simp [strs]]
            · intro g' hg
              rcases HX.out.2.2 with h | ⟨b, h, hb⟩
              · exact HH.out.2.1 g' (h ▸ hg)
              · rw [h] at hg; injection hg with hg; have := HH.out.2.2.size; omega
            · exact hb0.out.trans (HX.out.2.1.below hb0.out.size (fun b _ h => HH.out.2.1 b h))
end Go.Proofs.Ytipiohkpdkandaa
