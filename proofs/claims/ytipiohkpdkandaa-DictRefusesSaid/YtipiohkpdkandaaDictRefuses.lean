/-
  The walk of the law DictRefuses. Conditions: none.
-/
import Derived.Test.YtipiohkpdkandaaDictR
import Derived.Test.YtipiohkpdkandaaArgs
namespace Go.Proofs.Ytipiohkpdkandaa
set_option linter.unusedVariables false
set_option linter.unusedSimpArgs false
open Go.RowKit

set_option maxRecDepth 100000 in
set_option maxHeartbeats 8000000 in
theorem dictRefuses_walk (W : World) (r : Int) (_w : (Lit.int .i64 r).wf = true) (A : Option Addr) (n c : Nat) (l : List ByteArray) (ra : StrsArg W A n c l)
    (A2 : Option Addr) (n2 c2 : Nat) (l2 : List ByteArray) (ra2 : StrsArg W A2 n2 c2 l2) (A3 : Option Addr) (n3 c3 : Nat) (l3 : List Int) (ra3 : IntsArg .i64 8 W A3 n3 c3 l3) :
    Calls Try.prog 7 #[.int .i64 r, .slice A n c, .slice A2 n2 c2, .slice A3 n3 c3] W fun e W' => e = .returned (.bool true) ∧ Below W.heap.size W W' := by
  have aw := awake_any W
  clear _w
  by_cases hr : r < 1 ∨ 64 < r
  · have hnew := fun w => new_no r w hr
    clear hr ra ra2 ra3
    go_enter Try.func7, Try.ntmps7
    go_wp2_with fail
    refine aw.mono ?_
    rintro e w1 ⟨rfl, hb⟩
    clear aw
    go_wp2_with fail
    refine (hnew _).mono ?_
    rintro e w2 ⟨rfl, rfl⟩
    clear hnew
    go_wp2
    go_ret
    exact ⟨rfl, hb⟩
  · obtain ⟨q, rfl⟩ := Int.eq_ofNat_of_zero_le (show 0 ≤ r by omega)
    have hq1 : 1 ≤ q := by omega
    have hq2 : q ≤ 64 := by omega
    have hr1 := ra.room
    have hr2 := ra2.room
    have hr3 := ra3.room
    have RA := Lib.hid ra
    have RA2 := Lib.hid ra2
    have RA3 := Lib.hid ra3
    clear hr ra ra2 ra3
    go_enter Try.func7, Try.ntmps7
    go_wp2_with fail
    refine aw.mono ?_
    rintro e w1 ⟨rfl, hb⟩
    clear aw
    have hnew := own_new (B := W.heap.size) (W := W) (w := w1) q hq1 hq2 hb (Nat.le_refl _)
    clear hb
    go_wp2_with fail
    refine hnew.mono ?_
    rintro e w2 ⟨p, rfl, ho⟩
    clear hnew
    go_wp2_with fail
    go_loopg [12] n (fun gk v12 wr => ∃ (i : Nat) (d : DD), v12 = .int .i64 i ∧ gk + i = n ∧ Own W.heap.size W wr p d)
    case atStart => exact ⟨0, ⟨q, [], []⟩, rfl, by omega, ho⟩
    case round =>
      clear ho
      obtain ⟨i, d, rfl, hi, ho⟩ := hrel
      by_cases hin : i < n
      · have hini : (i : Int) < n := by omega
        obtain ⟨b, o, key, rfl, hkey, hkm, hcell⟩ := RA.out.at hin
        have h0 := hcell _ ho.bel
        have huse := own_use ho (Nat.le_refl _) key hkm
        clear ho hcell hkey
        go_wp2_with fail
        refine huse.mono ?_
        rintro e w3 ⟨rfl, ho⟩
        clear huse h0
        go_wp2
        go_roundg (n - i - 1)
        case measure => omega
        case rel => exact ⟨i + 1, _, by go_num, by omega, ho⟩
      · have hini : (n : Int) ≤ i := by omega
        have hkeys := own_keys ho (Nat.le_refl _)
        obtain ⟨m, hm⟩ : ∃ m, d.keys.length = m := ⟨_, rfl⟩
        have hm64 : m ≤ 64 := by have := ho.inv.le; have := ho.inv.hi; omega
        rw [hm] at hkeys
        have HM := Lib.hid hm
        clear ho hm
        go_wp2_with fail
        refine hkeys.mono ?_
        rintro e w4 ⟨B, cb, rfl, rB, aB, bB, ho⟩
        have HO := Lib.hid (And.intro ho rB)
        clear hkeys rB aB bB ho
        go_wp2_with fail
        go_loopg [14] n2 (fun gk v14 wr => ∃ i : Nat, v14 = .int .i64 i ∧ gk + i = n2 ∧ w4 = wr)
        case atStart => exact ⟨0, rfl, by omega, rfl⟩
        case round =>
          obtain ⟨i2, rfl, hi2, rfl⟩ := hrel
          by_cases hin2 : i2 < n2
          · have hini2 : (i2 : Int) < n2 := by omega
            obtain ⟨b2, o2, key, rfl, hkey, hkm, hcell⟩ := RA2.out.at hin2
            have h0 := hcell _ HO.out.1.bel
            clear hkey hcell
            have hcs : ((key.size : Int) < 1 ∧ ¬ keyOk key) ∨ (1 ≤ (key.size : Int) ∧ 64 < (key.size : Int) ∧ ¬ keyOk key) ∨ (1 ≤ (key.size : Int) ∧ (key.size : Int) ≤ 64) := by
              unfold keyOk; omega
            rcases hcs with ⟨k1, hno⟩ | ⟨k1, k2, hno⟩ | ⟨k1, k2⟩
            · have huse := use_no w4 p key hno hkm
              have hlook := own_look HO.out.1 key hkm
              rw [lookF_no (fun hm => hno (HO.out.1.inv.ok key hm))] at hlook
              clear hno
              go_wp2_with fail
              refine huse.mono ?_
              rintro e w5 ⟨rfl, rfl⟩
              clear huse
              go_wp2_with fail
              refine hlook.mono ?_
              rintro e w5 ⟨rfl, rfl⟩
              clear hlook
              go_wp2
              go_roundg (n2 - i2 - 1)
              case measure => omega
              case rel => exact ⟨i2 + 1, by go_num, by omega, rfl⟩
            · have huse := use_no w4 p key hno hkm
              have hlook := own_look HO.out.1 key hkm
              rw [lookF_no (fun hm => hno (HO.out.1.inv.ok key hm))] at hlook
              clear hno
              go_wp2_with fail
              refine huse.mono ?_
              rintro e w5 ⟨rfl, rfl⟩
              clear huse
              go_wp2_with fail
              refine hlook.mono ?_
              rintro e w5 ⟨rfl, rfl⟩
              clear hlook
              go_wp2
              go_roundg (n2 - i2 - 1)
              case measure => omega
              case rel => exact ⟨i2 + 1, by go_num, by omega, rfl⟩
            · go_wp2
              go_roundg (n2 - i2 - 1)
              case measure => omega
              case rel => exact ⟨i2 + 1, by go_num, by omega, rfl⟩
          · have hini2 : (n2 : Int) ≤ i2 := by omega
            go_wp2_with fail
            go_loopg [18] n3 (fun gk v18 wr => ∃ i : Nat, v18 = .int .i64 i ∧ gk + i = n3 ∧ w4 = wr)
            case atStart => exact ⟨0, rfl, by omega, rfl⟩
            case round =>
              obtain ⟨i3, rfl, hi3, rfl⟩ := hrel
              by_cases hin3 : i3 < n3
              · have hini3 : (i3 : Int) < n3 := by omega
                obtain ⟨b3, o3, x, rfl, hx, hwf, hcell⟩ := RA3.out.at hin3
                have h0 := hcell _ HO.out.1.bel
                clear hx hcell hwf
                have hcs : (x < 0) ∨ (0 ≤ x ∧ (m : Int) ≤ x) ∨ (0 ≤ x ∧ x < (m : Int)) := by omega
                rcases hcs with k1 | ⟨k1, k2⟩ | ⟨k1, k2⟩
                · have hto : Calls Try.prog 30 #[.pointer (some ⟨p, 0, none⟩), .int .i64 x] w4 fun e w' => e = .returned (.tuple #[.string ByteArray.empty, .int .i64 50]) ∧ w4 = w' := by
                    obtain ⟨S, ⟨M, K, O, nn, ck, co, hB, _⟩, _⟩ := HO.out.1
                    exact touch_no hB x (.inl k1)
                  go_wp2_with fail
                  refine hto.mono ?_
                  rintro e w5 ⟨rfl, rfl⟩
                  clear hto
                  go_wp2
                  go_roundg (n3 - i3 - 1)
                  case measure => omega
                  case rel => exact ⟨i3 + 1, by go_num, by omega, rfl⟩
                · have hto : Calls Try.prog 30 #[.pointer (some ⟨p, 0, none⟩), .int .i64 x] w4 fun e w' => e = .returned (.tuple #[.string ByteArray.empty, .int .i64 50]) ∧ w4 = w' := by
                    obtain ⟨S, ⟨M, K, O, nn, ck, co, hB, _⟩, _⟩ := HO.out.1
                    exact touch_no hB x (.inr (by rw [← hB.len, HM.out]; exact k2))
                  go_wp2_with fail
                  refine hto.mono ?_
                  rintro e w5 ⟨rfl, rfl⟩
                  clear hto
                  go_wp2
                  go_roundg (n3 - i3 - 1)
                  case measure => omega
                  case rel => exact ⟨i3 + 1, by go_num, by omega, rfl⟩
                · go_wp2
                  go_roundg (n3 - i3 - 1)
                  case measure => omega
                  case rel => exact ⟨i3 + 1, by go_num, by omega, rfl⟩
              · have hini3 : (n3 : Int) ≤ i3 := by omega
                have hkeys := own_keys HO.out.1 (Nat.le_refl _)
                rw [HM.out] at hkeys
                go_wp2_with fail
                refine hkeys.mono ?_
                rintro e w5 ⟨C, cc, rfl, rC, aC, bC, ho⟩
                have rB := HO.out.2.block (fun g hg => bC.block g (HO.out.2.lt hg))
                have hsame := same_yes w5 C B m cc cb _ rC.rd rB.rd
                have HB := Lib.hid ho.bel
                clear hkeys rC aC bC ho rB
                go_wp2_with fail
                refine hsame.mono ?_
                rintro e w6 ⟨rfl, bS⟩
                clear hsame
                go_wp2
                go_ret
                exact ⟨rfl, HB.out.trans (bS.mono HB.out.size)⟩
end Go.Proofs.Ytipiohkpdkandaa
