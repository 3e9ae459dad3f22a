/-
  The walk of the law DictGreater. Conditions: none.
-/
import Derived.Test.YtipiohkpdkandaaDictO
import Derived.Test.YtipiohkpdkandaaArgs
namespace Go.Proofs.Ytipiohkpdkandaa
set_option linter.unusedVariables false
set_option linter.unusedSimpArgs false
open Go.RowKit

set_option maxRecDepth 100000 in
set_option maxHeartbeats 8000000 in
theorem dictGreater_walk (W : World) (r : Int) (_w : (Lit.int .i64 r).wf = true) (more : Int) (_wm : (Lit.int .i64 more).wf = true) (A : Option Addr) (n c : Nat) (l : List ByteArray) (ra : StrsArg W A n c l) :
    Calls Try.prog 6 #[.int .i64 r, .int .i64 more, .slice A n c] W fun e W' => e = .returned (.bool true) ∧ Below W.heap.size W W' := by
  have aw := awake_any W
  have hmb : -9223372036854775808 ≤ more ∧ more ≤ 9223372036854775807 := by simpa [Lit.wf, IntKind.min, IntKind.max, IntKind.signed, IntKind.bits] using _wm
  clear _w _wm
  by_cases hr : r < 1 ∨ 64 < r
  · have hnew := fun w => new_no r w hr
    have hcs : more < 0 ∨ 0 ≤ more := by omega
    clear hr ra
    rcases hcs with hm | hm
    all_goals
      clear hmb
      go_enter Try.func6, Try.ntmps6
      go_wp2_with fail
      refine aw.mono ?_
      rintro e w1 ⟨rfl, hb⟩
      clear aw
      go_wp2_with fail
      refine (hnew _).mono ?_
      rintro e w2 ⟨rfl, rfl⟩
      clear hnew
      go_wp2
      go_ret
      exact ⟨rfl, hb⟩
  · obtain ⟨q, rfl⟩ := Int.eq_ofNat_of_zero_le (show 0 ≤ r by omega)
    have hq1 : 1 ≤ q := by omega
    have hq2 : q ≤ 64 := by omega
    have hroom := ra.room
    have RA := Lib.hid ra
    clear hr ra
    obtain ⟨x, hx0, hxm⟩ : ∃ x : Int, 0 ≤ x ∧ ((0 ≤ more ∧ x = more) ∨ (more < 0 ∧ IntKind.i64.wrap (more + 1) = more + 1 ∧ IntKind.i64.wrap (-(more + 1)) = x)) := by
      by_cases h : 0 ≤ more
      · exact ⟨more, h, .inl ⟨h, rfl⟩⟩
      · exact ⟨-(more + 1), by omega, .inr ⟨by omega, IntWalk.i64_in _ (by omega), IntWalk.i64_in _ (by omega)⟩⟩
    obtain ⟨y, hy, hy64⟩ : ∃ y : Nat, x.tmod 64 = (y : Int) ∧ y < 64 := by
      refine ⟨(x.tmod 64).toNat, ?_, ?_⟩
      · have := Int.tmod_nonneg 64 hx0; omega
      · have := Int.tmod_lt_of_pos x (show (0 : Int) < 64 by omega); omega
    have hw : IntKind.i64.wrap ((q : Int) + y) = (q : Int) + y := IntWalk.i64_in _ (by omega)
    obtain ⟨z, hz1, hz64, hqz, hz⟩ : ∃ z : Nat, 1 ≤ z ∧ z ≤ 64 ∧ q ≤ z ∧ (((q : Int) + y ≤ 64 ∧ z = q + y) ∨ (64 < (q : Int) + y ∧ z = 64)) := by
      by_cases h : q + y ≤ 64
      · exact ⟨q + y, by omega, by omega, by omega, .inl ⟨by omega, rfl⟩⟩
      · exact ⟨64, by omega, by omega, by omega, .inr ⟨by omega, rfl⟩⟩
    have hcs : (0 ≤ more ∧ x = more ∧ (q : Int) + y ≤ 64 ∧ (z : Int) = (q : Int) + y) ∨ (0 ≤ more ∧ x = more ∧ 64 < (q : Int) + y ∧ (z : Int) = 64) ∨ ((more < 0 ∧ IntKind.i64.wrap (more + 1) = more + 1 ∧ IntKind.i64.wrap (-(more + 1)) = x) ∧ (q : Int) + y ≤ 64 ∧ (z : Int) = (q : Int) + y) ∨ ((more < 0 ∧ IntKind.i64.wrap (more + 1) = more + 1 ∧ IntKind.i64.wrap (-(more + 1)) = x) ∧ 64 < (q : Int) + y ∧ (z : Int) = 64) := by
      rcases hxm with ⟨h1, h2⟩ | h1 <;> rcases hz with ⟨h3, h4⟩ | ⟨h3, h4⟩
      · exact .inl ⟨h1, h2, h3, by omega⟩
      · exact .inr (.inl ⟨h1, h2, h3, by omega⟩)
      · exact .inr (.inr (.inl ⟨h1, h3, by omega⟩))
      · exact .inr (.inr (.inr ⟨h1, h3, by omega⟩))
    clear hmb hxm hz
    rcases hcs with ⟨hm, rfl, hz, hze⟩ | ⟨hm, rfl, hz, hze⟩ | ⟨⟨hm, hw1, hw2⟩, hz, hze⟩ | ⟨⟨hm, hw1, hw2⟩, hz, hze⟩
    all_goals
      go_enter Try.func6, Try.ntmps6
      go_wp2_with fail
      refine aw.mono ?_
      rintro e w1 ⟨rfl, hb⟩
      clear aw
      have hnew := own_new (B := W.heap.size) (W := W) (w := w1) q hq1 hq2 hb (Nat.le_refl _)
      clear hb
      go_wp2_with fail
      refine hnew.mono ?_
      rintro e w2 ⟨p, rfl, ho⟩
      have hnew2 := own2_new ho z hz1 hz64 (Nat.le_refl _)
      rw [hze] at hnew2
      clear hnew ho
      go_wp2_with fail
      refine hnew2.mono ?_
      rintro e w3 ⟨p2, rfl, ho⟩
      clear hnew2
      go_wp2_with fail
      go_loopg [12] n (fun gk v12 wr => ∃ (i : Nat) (d g : DD), v12 = .int .i64 i ∧ gk + i = n ∧ i ≤ 200 ∧ Hid (d.room = q ∧ g.room = z ∧ recent d = late (q : Int) (l.take i) ∧ recent g = late (z : Int) (l.take i)) ∧ Own2 (fun _ => False) W.heap.size W wr p d p2 g)
      case atStart => exact ⟨0, ⟨q, [], []⟩, ⟨z, [], []⟩, rfl, by omega, by omega, ⟨rfl, rfl, rfl, rfl⟩, ho⟩
      case round =>
        clear ho
        obtain ⟨i, d, g, rfl, hi, hi200, hdg, ho⟩ := hrel
        by_cases hin : i < n ∧ i < 200
        · obtain ⟨hin, hi2⟩ := hin
          have hini : (i : Int) < n := by omega
          have hi2i : (i : Int) < 200 := by omega
          obtain ⟨b, o, key, rfl, hkey, hkm, hcell⟩ := RA.out.at hin
          obtain ⟨d', g', s, t, h1, h2, er, hu1, hu2, hcs⟩ := use_two ho.inv ho.swap.inv (keys_sub ho.inv ho.swap.inv hqz hdg.out.2.2.1 hdg.out.2.2.2) key
          have huse := own2_use ho (Nat.le_refl _) key hkm
          rw [hu1] at huse
          dsimp only at huse
          have hI : Hid (DInv d' ∧ DInv g' ∧ d'.room = q ∧ g'.room = z ∧ recent d' = late (q : Int) (l.take (i + 1)) ∧ recent g' = late (z : Int) (l.take (i + 1))) := by
            have a1 := ho.inv.useG key
            have a2 := ho.swap.inv.useG key
            have a3 := useG_room d key
            have a4 := useG_room g key
            have a5 := recent_step ho.inv (l := l.take i) (by rw [hdg.out.1]; exact hdg.out.2.2.1) key
            have a6 := recent_step ho.swap.inv (l := l.take i) (by rw [hdg.out.2.1]; exact hdg.out.2.2.2) key
            rw [hu1] at a1 a3 a5
            rw [hu2] at a2 a4 a6
            rw [hdg.out.1, ← take_succ_get hkey] at a5
            rw [hdg.out.2.1, ← take_succ_get hkey] at a6
            exact ⟨a1, a2, a3.trans hdg.out.1, a4.trans hdg.out.2.1, a5, a6⟩
          have h0 := hcell _ ho.bel
          obtain ⟨m, hm⟩ : ∃ m, d'.keys.length = m := ⟨_, rfl⟩
          obtain ⟨m2, hm2⟩ : ∃ m, g'.keys.length = m := ⟨_, rfl⟩
          have hpre : recent d' = (recent g').take q := by rw [hI.out.2.2.2.2.1, hI.out.2.2.2.2.2]; exact late_take q z hqz _
          have hmm : m ≤ m2 ∧ recent d' = (recent g').take m := by
            have b1 := recent_length hI.out.1
            have b2 := recent_length hI.out.2.1
            have b3 := congrArg List.length hpre
            rw [List.length_take] at b3
            refine ⟨by omega, ?_⟩
            rw [hpre]
            by_cases hqm : q ≤ m2
            · congr 1; omega
            · rw [List.take_of_length_le (by omega), List.take_of_length_le (by omega)]
          have hm264 : m2 ≤ 64 := by have := hI.out.2.1.le; have := hI.out.2.2.2.1; omega
          have HM : Hid (d'.keys.length = m ∧ g'.keys.length = m2 ∧ recent d' = (recent g').take m) := ⟨hm, hm2, hmm.2⟩
          have hmm1 := hmm.1
          have HU := Lib.hid hu2
          clear hu1 hu2 hdg hkey ho hpre hmm hm hm2
          rcases hcs with rfl | ⟨rfl, rfl⟩
          all_goals
            go_wp2_with fail
            refine huse.mono ?_
            rintro e w4 ⟨rfl, ho, _⟩
            clear huse h0
            have h0 := hcell _ ho.bel
            have huse2 := own2_use ho.swap (Nat.le_refl _) key hkm
            rw [HU.out] at huse2
            dsimp only at huse2
            clear ho
            go_wp2_with fail
            refine huse2.mono ?_
            rintro e w5 ⟨rfl, ho, _⟩
            have hkeys := own2_keys ho.swap (Nat.le_refl _)
            rw [HM.out.1] at hkeys
            clear huse2 ho h0
            go_wp2_with fail
            refine hkeys.mono ?_
            rintro e w6 ⟨B, cb, rfl, rB, aB, bB, ho⟩
            have hkeys2 := own2_keys ho.swap (Nat.le_refl _)
            rw [HM.out.2.1] at hkeys2
            clear hkeys aB bB ho
            go_wp2_with fail
            refine hkeys2.mono ?_
            rintro e w7 ⟨C, cc, rfl, rC, aC, bC, ho⟩
            replace rB := rB.block (fun g hg => bC.block g (rB.lt hg))
            have hle := rC.le
            have hsub := run_sub_h (P := Try.prog) Try.underlying43 (by kernel_rfl) C m2 cc m (by omega)
            have hrd := rC.rd.take hmm1
            rw [strs_take, ← HM.out.2.2] at hrd
            have hsame := same_yes w7 B C m cb cc _ rB.rd hrd
            clear hkeys2 rB rC aC bC hrd
            go_wp2_with fail
            refine hsame.mono ?_
            rintro e w8 ⟨rfl, bS⟩
            replace ho := (ho.below bS (Nat.le_refl _)).swap
            have HO := Lib.hid ho
            clear hsame bS ho
            go_wp2
            go_roundg (n - i - 1)
            case measure => omega
            case rel => exact ⟨i + 1, d', g', by go_num, by omega, by omega, hI.out.2.2, HO.out⟩
        · have hcs : (n : Int) ≤ i ∨ ((i : Int) < n ∧ (200 : Int) ≤ i) := by omega
          have HB := Lib.hid ho.bel
          clear ho hin hdg
          rcases hcs with hc1 | ⟨hc1, hc2⟩
          all_goals
            go_wp2
            go_ret
            exact ⟨rfl, HB.out⟩
end Go.Proofs.Ytipiohkpdkandaa
