/-
  The walk of the law DictStep. Conditions: none.
-/
import Derived.Test.YtipiohkpdkandaaDictC
import Derived.Test.YtipiohkpdkandaaArgs
namespace Go.Proofs.Ytipiohkpdkandaa
set_option linter.unusedVariables false
set_option linter.unusedSimpArgs false
open Go.RowKit

set_option maxRecDepth 100000 in
set_option maxHeartbeats 8000000 in
theorem dictStep_walk (W : World) (r : Int) (_w : (Lit.int .i64 r).wf = true) (A : Option Addr) (n c : Nat) (l : List ByteArray) (ra : StrsArg W A n c l) :
    Calls Try.prog 9 #[.int .i64 r, .slice A n c] W fun e W' => e = .returned (.bool true) ∧ Below W.heap.size W W' := by
  have aw := awake_any W
  clear _w
  by_cases hr : r < 1 ∨ 64 < r
  · have hnew := fun w => new_no r w hr
    have hcs : r < 1 ∨ (1 ≤ r ∧ 64 < r) := by omega
    clear hr ra
    rcases hcs with h1 | ⟨h1, h2⟩
    all_goals
      go_enter Try.func9, Try.ntmps9
      go_wp2_with fail
      refine aw.mono ?_
      rintro e w1 ⟨rfl, hb⟩
      clear aw
      go_wp2_with fail
      refine (hnew _).mono ?_
      rintro e w2 ⟨rfl, rfl⟩
      clear hnew
      go_wp2
      go_ret
      exact ⟨by simp [*], hb⟩
  · obtain ⟨z, rfl⟩ := Int.eq_ofNat_of_zero_le (show 0 ≤ r by omega)
    have hq1 : 1 ≤ z := by omega
    have hq2 : z ≤ 64 := by omega
    have hroom := ra.room
    have RA := Lib.hid ra
    clear hr ra
    go_enter Try.func9, Try.ntmps9
    go_wp2_with fail
    refine aw.mono ?_
    rintro e w1 ⟨rfl, hb⟩
    clear aw
    have hnew := own_new (B := W.heap.size) (W := W) (w := w1) z hq1 hq2 hb (Nat.le_refl _)
    clear hb
    go_wp2_with fail
    refine hnew.mono ?_
    rintro e w2 ⟨p, rfl, ho⟩
    clear hnew
    have hcl := own2_clone ho (Nat.le_refl _)
    clear ho
    go_wp2_with fail
    refine hcl.mono ?_
    rintro e w3 ⟨q, rfl, ho⟩
    clear hcl
    go_wp2_with fail
    go_loopg [9] n (fun gk v9 wr => ∃ (i : Nat) (d : DD), v9 = .int .i64 i ∧ gk + i = n ∧ i ≤ 200 ∧ Own2 (fun _ => False) W.heap.size W wr p d q d)
    case atStart => exact ⟨0, ⟨z, [], []⟩, rfl, by omega, by omega, ho⟩
    case round =>
      clear ho
      obtain ⟨i, d, rfl, hi, hi200, ho⟩ := hrel
      by_cases hin : i < n ∧ i < 200
      · obtain ⟨hin, hi2⟩ := hin
        have hini : (i : Int) < n := by omega
        have hi2i : (i : Int) < 200 := by omega
        obtain ⟨b, o, key, rfl, hkey, hkm, hcell⟩ := RA.out.at hin
        obtain ⟨d', s, hd, er, was, hu, hlk, hd'i, hd'r, hcs⟩ := use_cases ho.inv key
        have huse := own2_use ho (Nat.le_refl _) key hkm
        rw [hu] at huse
        dsimp only at huse
        have h0 := hcell _ ho.bel
        have hbne := bytes_bne key
        obtain ⟨m, hm⟩ : ∃ m, d'.keys.length = m := ⟨_, rfl⟩
        have HM := Lib.hid hm
        have HU := Lib.hid hu
        clear hlk hd'i hd'r hkey ho hm hu
        rcases hcs with ⟨rfl, rfl, _, _, _, _, htg⟩ | ⟨rfl, rfl, _⟩ | ⟨rfl, rfl, _⟩
        · go_wp2_with fail
          refine huse.mono ?_
          rintro e w4 ⟨rfl, ho, _⟩
          clear huse h0
          have h0 := hcell _ ho.bel
          have hsec := own2_touch ho.swap (Nat.le_refl _) s
          rw [htg] at hsec
          dsimp only at hsec
          clear ho
          go_wp2_with fail
          refine hsec.mono ?_
          rintro e w5 ⟨rfl, ho, _⟩
          replace ho := ho.swap
          have hkeys := own2_keys ho (Nat.le_refl _)
          rw [HM.out] at hkeys
          clear hsec ho h0
          go_wp2_with fail
          refine hkeys.mono ?_
          rintro e w6 ⟨B, cb, rfl, rB, aB, bB, ho⟩
          have hkeys2 := own2_keys ho.swap (Nat.le_refl _)
          rw [HM.out] at hkeys2
          clear hkeys aB bB ho
          go_wp2_with fail
          refine hkeys2.mono ?_
          rintro e w7 ⟨C, cc, rfl, rC, aC, bC, ho⟩
          replace rB := rB.block (fun g hg => bC.block g (rB.lt hg))
          have hsame := same_yes w7 B C m cb cc _ rB.rd rC.rd
          clear hkeys2 rB rC aC bC
          go_wp2_with fail
          refine hsame.mono ?_
          rintro e w8 ⟨rfl, bS⟩
          replace ho := (ho.below bS (Nat.le_refl _)).swap
          have h0 := hcell _ ho.bel
          have HO := Lib.hid ho
          clear hsame bS ho
          go_wp2
          go_roundg (n - i - 1)
          case measure => omega
          case rel => exact ⟨i + 1, d', by go_num, by omega, by omega, HO.out⟩
        · go_wp2_with fail
          refine huse.mono ?_
          rintro e w4 ⟨rfl, ho, _⟩
          clear huse h0
          have h0 := hcell _ ho.bel
          have hsec := own2_use ho.swap (Nat.le_refl _) key hkm
          rw [HU.out] at hsec
          dsimp only at hsec
          clear ho
          go_wp2_with fail
          refine hsec.mono ?_
          rintro e w5 ⟨rfl, ho, _⟩
          replace ho := ho.swap
          have hkeys := own2_keys ho (Nat.le_refl _)
          rw [HM.out] at hkeys
          clear hsec ho h0
          go_wp2_with fail
          refine hkeys.mono ?_
          rintro e w6 ⟨B, cb, rfl, rB, aB, bB, ho⟩
          have hkeys2 := own2_keys ho.swap (Nat.le_refl _)
          rw [HM.out] at hkeys2
          clear hkeys aB bB ho
          go_wp2_with fail
          refine hkeys2.mono ?_
          rintro e w7 ⟨C, cc, rfl, rC, aC, bC, ho⟩
          replace rB := rB.block (fun g hg => bC.block g (rB.lt hg))
          have hsame := same_yes w7 B C m cb cc _ rB.rd rC.rd
          clear hkeys2 rB rC aC bC
          go_wp2_with fail
          refine hsame.mono ?_
          rintro e w8 ⟨rfl, bS⟩
          replace ho := (ho.below bS (Nat.le_refl _)).swap
          have h0 := hcell _ ho.bel
          have HO := Lib.hid ho
          clear hsame bS ho
          go_wp2
          go_roundg (n - i - 1)
          case measure => omega
          case rel => exact ⟨i + 1, d', by go_num, by omega, by omega, HO.out⟩
        · go_wp2_with fail
          refine huse.mono ?_
          rintro e w4 ⟨rfl, ho, _⟩
          clear huse h0
          have h0 := hcell _ ho.bel
          have hsec := own2_use ho.swap (Nat.le_refl _) key hkm
          rw [HU.out] at hsec
          dsimp only at hsec
          clear ho
          go_wp2_with fail
          refine hsec.mono ?_
          rintro e w5 ⟨rfl, ho, _⟩
          replace ho := ho.swap
          have hkeys := own2_keys ho (Nat.le_refl _)
          rw [HM.out] at hkeys
          clear hsec ho h0
          go_wp2_with fail
          refine hkeys.mono ?_
          rintro e w6 ⟨B, cb, rfl, rB, aB, bB, ho⟩
          have hkeys2 := own2_keys ho.swap (Nat.le_refl _)
          rw [HM.out] at hkeys2
          clear hkeys aB bB ho
          go_wp2_with fail
          refine hkeys2.mono ?_
          rintro e w7 ⟨C, cc, rfl, rC, aC, bC, ho⟩
          replace rB := rB.block (fun g hg => bC.block g (rB.lt hg))
          have hsame := same_yes w7 B C m cb cc _ rB.rd rC.rd
          clear hkeys2 rB rC aC bC
          go_wp2_with fail
          refine hsame.mono ?_
          rintro e w8 ⟨rfl, bS⟩
          replace ho := (ho.below bS (Nat.le_refl _)).swap
          have h0 := hcell _ ho.bel
          have HO := Lib.hid ho
          clear hsame bS ho
          go_wp2
          go_roundg (n - i - 1)
          case measure => omega
          case rel => exact ⟨i + 1, d', by go_num, by omega, by omega, HO.out⟩
      · have hcs : (n : Int) ≤ i ∨ ((i : Int) < n ∧ (200 : Int) ≤ i) := by omega
        have hkeys := own2_keys ho (Nat.le_refl _)
        obtain ⟨m, hm⟩ : ∃ m, d.keys.length = m := ⟨_, rfl⟩
        have hm64 : m ≤ 64 := by have := ho.inv.le; have := ho.inv.hi; omega
        rw [hm] at hkeys
        have HM := Lib.hid hm
        clear ho hin hm
        rcases hcs with hc1 | ⟨hc1, hc2⟩
        all_goals
          go_wp2_with fail
          refine hkeys.mono ?_
          rintro e w4 ⟨B, cb, rfl, rB, aB, bB, ho⟩
          have HO := Lib.hid (And.intro ho rB)
          clear hkeys rB aB bB ho
          go_wp2_with fail
          go_loopg [19] m (fun gq v19 wq => ∃ k : Nat, v19 = .int .i64 k ∧ gq + k = m ∧ w4 = wq)
          case atStart => exact ⟨0, rfl, by omega, rfl⟩
          case round =>
            obtain ⟨k, rfl, hk, rfl⟩ := hrel
            by_cases hkm2 : k < m
            · have hkmi : (k : Int) < m := by omega
              obtain ⟨ky, sk, f1, f2, f3, f4, _⟩ := look_recent HO.out.1.inv (j := k) (by rw [HM.out]; exact hkm2)
              obtain ⟨gB, hB⟩ : ∃ g, B = some ⟨g, 0, none⟩ := by
                rcases HO.out.2.form with ⟨_, h0, _⟩ | ⟨g, _, h0, _⟩
                · omega
                · exact ⟨g, h0⟩
              subst hB
              have hcB := HO.out.2.cell (strs_get f1)
              have hlook := own2_look HO.out.1 ky (by unfold maxLen; omega)
              rw [f3] at hlook
              have hlook2 := own2_look HO.out.1.swap ky (by unfold maxLen; omega)
              rw [f3] at hlook2
              have hsk0 : (0 : Int) ≤ sk := by omega
              clear f1 f2 f3 f4
              go_wp2_with fail
              refine hlook.mono ?_
              rintro e w7 ⟨rfl, rfl⟩
              clear hlook
              go_wp2_with fail
              refine hlook2.mono ?_
              rintro e w7 ⟨rfl, rfl⟩
              clear hlook2
              go_wp2
              go_roundg (m - k - 1)
              case measure => omega
              case rel => exact ⟨k + 1, by go_num, by omega, rfl⟩
            · have hkmi : (m : Int) ≤ k := by omega
              go_wp2
              go_ret
              exact ⟨rfl, HO.out.1.bel⟩
end Go.Proofs.Ytipiohkpdkandaa
