/-
  The walk of the law DictApart. Conditions: none.
-/
import Derived.Test.YtipiohkpdkandaaDictC
import Derived.Test.YtipiohkpdkandaaArgs
namespace Go.Proofs.Ytipiohkpdkandaa
set_option linter.unusedVariables false
set_option linter.unusedSimpArgs false
open Go.RowKit

theorem own2_cloneF {F : Nat → Prop} {B : Nat} {W w : World} {p : Nat} {d : DD} {S : Nat → Prop} (h : DictAt w p d S) (h3 : ∀ b, S b → B ≤ b) (h4 : Below B W w) (hB : B ≤ W.heap.size) (hF : ∀ b, F b → ¬ S b ∧ b < w.heap.size) :
    Calls Try.prog 32 #[.pointer (some ⟨p, 0, none⟩)] w fun e w' => ∃ q, e = .returned (.pointer (some ⟨q, 0, none⟩)) ∧ Own2 F B W w' p d q d ∧ Keeps F w w' := by
  refine (dclone h).mono ?_
  rintro e w' ⟨q, rfl, T, a1, a2, a3⟩
  have := h4.size
  have := a3.size
  exact ⟨q, rfl, ⟨S, T, h.kept (Upd.of_below a3) (fun b hb => by have := h.lt hb; omega), a1, fun b hb => ⟨h3 b hb, fun ht => by have := h.lt hb; have := a2 b ht; omega, fun hf => (hF b hf).1 hb⟩, fun b hb => ⟨by have := a2 b hb; omega, fun hf => by have := (hF b hf).2; have := a2 b hb; omega⟩, fun b hb => by have := (hF b hb).2; omega, h4.trans (a3.mono (by omega))⟩, fun b hf => a3.block b (hF b hf).2⟩

set_option maxRecDepth 100000 in
set_option maxHeartbeats 8000000 in
theorem dictApart_walk (W : World) (r : Int) (_w : (Lit.int .i64 r).wf = true) (A : Option Addr) (n c : Nat) (l : List ByteArray) (ra : StrsArg W A n c l) (hn : n ≤ 1048576)
    (A2 : Option Addr) (n2 c2 : Nat) (l2 : List ByteArray) (ra2 : StrsArg W A2 n2 c2 l2) (hn2 : n2 ≤ 1048576) :
    Calls Try.prog 10 #[.int .i64 r, .slice A n c, .slice A2 n2 c2] W fun e W' => e = .returned (.bool true) ∧ Below W.heap.size W W' := by
  have aw := awake_any W
  clear _w
  by_cases hr : r < 1 ∨ 64 < r
  · have hnew := fun w => new_no r w hr
    have hcs : r < 1 ∨ (1 ≤ r ∧ 64 < r) := by omega
    clear hr ra ra2
    rcases hcs with h1 | ⟨h1, h2⟩
    all_goals
      go_enter Try.func10, Try.ntmps10
      go_wp2_with fail
      refine aw.mono ?_
      rintro e w1 ⟨rfl, hb⟩
      clear aw
      go_wp2_with fail
      refine (hnew _).mono ?_
      rintro e w2 ⟨rfl, rfl⟩
      clear hnew
      go_wp2
      go_ret
      exact ⟨by simp [*], hb⟩
  · obtain ⟨z, rfl⟩ := Int.eq_ofNat_of_zero_le (show 0 ≤ r by omega)
    have hq1 : 1 ≤ z := by omega
    have hq2 : z ≤ 64 := by omega
    have RA := Lib.hid ra
    have RA2 := Lib.hid ra2
    clear hr ra ra2
    go_enter Try.func10, Try.ntmps10
    go_wp2_with fail
    refine aw.mono ?_
    rintro e w1 ⟨rfl, hb⟩
    clear aw
    have hnew := own_new (B := W.heap.size) (W := W) (w := w1) z hq1 hq2 hb (Nat.le_refl _)
    clear hb
    go_wp2_with fail
    refine hnew.mono ?_
    rintro e w2 ⟨p, rfl, ho⟩
    clear hnew
    go_wp2_with fail
    go_loopg [10] n (fun gk v10 wr => ∃ (i : Nat) (d : DD), v10 = .int .i64 i ∧ gk + i = n ∧ Hid (d.room = z ∧ recent d = late (z : Int) (l.take i)) ∧ Own W.heap.size W wr p d)
    case atStart => exact ⟨0, ⟨z, [], []⟩, rfl, by omega, ⟨rfl, rfl⟩, ho⟩
    case round =>
      clear ho
      obtain ⟨i, d, rfl, hi, hd, ho⟩ := hrel
      by_cases hin : i < n
      · have hini : (i : Int) < n := by omega
        obtain ⟨b, o, key, rfl, hkey, hkm, hcell⟩ := RA.out.at hin
        have h0 := hcell _ ho.bel
        have huse := own_use ho (Nat.le_refl _) key hkm
        have hI : Hid ((useG d key).1.room = z ∧ recent (useG d key).1 = late (z : Int) (l.take (i + 1))) := by
          have a5 := recent_step ho.inv (l := l.take i) (by rw [hd.out.1]; exact hd.out.2) key
          rw [hd.out.1, ← take_succ_get hkey] at a5
          exact ⟨(useG_room d key).trans hd.out.1, a5⟩
        clear ho hcell hkey hd
        go_wp2_with fail
        refine huse.mono ?_
        rintro e w3 ⟨rfl, ho⟩
        clear huse h0
        go_wp2
        go_roundg (n - i - 1)
        case measure => omega
        case rel => exact ⟨i + 1, _, by go_num, by omega, hI, ho⟩
      · have hini : (n : Int) ≤ i := by omega
        have hd1 : Hid (recent d = late (z : Int) l) := by
          have := hd.out.2
          rwa [List.take_of_length_le (by rw [RA.out.len]; omega)] at this
        obtain ⟨S, hdS, hS, hbS⟩ := ho
        have hkeys := keys_any hdS
        obtain ⟨m, hm⟩ : ∃ m, d.keys.length = m := ⟨_, rfl⟩
        have hm64 : m ≤ 64 := by have := hdS.inv.le; have := hdS.inv.hi; omega
        rw [hm] at hkeys
        have HM := Lib.hid (And.intro hm (And.intro hd.out.1 hd1.out))
        have HS := Lib.hid (And.intro hdS (And.intro hS hbS))
        clear hdS hS hbS hm hd hd1
        go_wp2_with fail
        refine hkeys.mono ?_
        rintro e w4 ⟨B, cb, rfl, rB, aB, bB⟩
        clear hkeys
        have hcl := own2_cloneF (F := fun b => blk B = some b) (W := W) (B := W.heap.size) (HS.out.1.kept (Upd.of_below bB) (fun b hb => by have := HS.out.1.lt hb; omega)) HS.out.2.1 (HS.out.2.2.trans (bB.mono HS.out.2.2.size)) (Nat.le_refl _)
          (fun b hb => ⟨fun hs => by have := HS.out.1.lt hs; have := aB b hb; omega, rB.lt hb⟩)
        have HR := Lib.hid rB
        clear aB bB rB HS
        go_wp2_with fail
        refine hcl.mono ?_
        rintro e w5 ⟨q, rfl, ho, hk⟩
        have hrB := HR.out.block (fun g hg => hk g hg)
        clear hcl hk HR
        go_wp2_with fail
        go_loopg [13] n2 (fun gk v13 wr => ∃ (i : Nat) (dc : DD), v13 = .int .i64 i ∧ gk + i = n2 ∧ Hid (dc.room = z ∧ recent dc = late (z : Int) (l ++ l2.take i)) ∧ Own2 (fun b => blk B = some b) W.heap.size W wr p d q dc ∧ Row wr 9 B m cb (strs (recent d)))
        case atStart => exact ⟨0, d, rfl, by omega, ⟨HM.out.2.1, by rw [List.take_zero, List.append_nil]; exact HM.out.2.2⟩, ho, hrB⟩
        case round =>
          clear ho hrB
          obtain ⟨j, dc, rfl, hj, hdc, ho, hrB⟩ := hrel
          by_cases hjn : j < n2
          · have hjni : (j : Int) < n2 := by omega
            obtain ⟨b2, o2, key, rfl, hkey, hkm, hcell⟩ := RA2.out.at hjn
            have h0 := hcell _ ho.bel
            have huse := own2_use ho.swap (Nat.le_refl _) key hkm
            have hI : Hid ((useG dc key).1.room = z ∧ recent (useG dc key).1 = late (z : Int) (l ++ l2.take (j + 1))) := by
              have a5 := recent_step ho.swap.inv (l := l ++ l2.take j) (by rw [hdc.out.1]; exact hdc.out.2) key
              rw [hdc.out.1, List.append_assoc, ← take_succ_get hkey] at a5
              exact ⟨(useG_room dc key).trans hdc.out.1, a5⟩
            have HR := Lib.hid hrB
            clear ho hcell hkey hdc hrB
            go_wp2_with fail
            refine huse.mono ?_
            rintro e w6 ⟨rfl, ho, hk⟩
            have hrB := HR.out.block (fun g hg => hk g hg)
            clear huse h0 hk
            go_wp2
            go_roundg (n2 - j - 1)
            case measure => omega
            case rel => exact ⟨j + 1, _, by go_num, by omega, hI, ho.swap, hrB⟩
          · have hjni : (n2 : Int) ≤ j := by omega
            have hdc1 : recent dc = late (z : Int) (l ++ l2) := by
              have := hdc.out.2
              rwa [List.take_of_length_le (l := l2) (by rw [RA2.out.len]; omega)] at this
            obtain ⟨k, hk⟩ : ∃ k, dc.keys.length = k := ⟨_, rfl⟩
            have hlk : (late (z : Int) (l ++ l2)).length = k := by rw [← hdc1, recent_length ho.swap.inv, hk]
            have HC := Lib.hid (And.intro hk (And.intro hlk hdc1))
            have hkeys := own2_keys ho (Nat.le_refl _)
            rw [HM.out.1] at hkeys
            have HR := Lib.hid hrB
            clear hdc hdc1 hk hlk ho hrB
            go_wp2_with fail
            refine hkeys.mono ?_
            rintro e w6 ⟨C, cc, rfl, rC, aC, bC, ho⟩
            have rB := HR.out.block (fun g hg => bC.block g (HR.out.lt hg))
            have hsame := same_yes w6 C B m cc cb _ rC.rd rB.rd
            clear hkeys rC aC bC rB HR
            go_wp2_with fail
            refine hsame.mono ?_
            rintro e w7 ⟨rfl, bS⟩
            replace ho := ho.below bS (Nat.le_refl _)
            have HO := Lib.hid ho
            clear hsame bS ho
            go_wp2_with (at_builtin; go_must (refine row_append rfl (.tmp 74) (.tmp 75) 43 9 (.string ByteArray.empty) 16 rfl Try.underlying43 infoStr rfl (by decide) none 0 0 [] A n c (strs l) rfl rfl (Row.nil _ _) (RA.out.rd.below HO.out.bel (Nat.le_refl _)) (strs_oneCell l) (by omega) ?_))
            intro A3 c3 w8 a1 a2 a3
            try simp only [Nat.zero_add, List.nil_append] at a1
            try simp only [Nat.zero_add]
            have b8 : Below w7.heap.size w7 w8 := a2.below (Nat.le_refl _) (fun b _ hb => by cases hb)
            have ho8 := HO.out.below b8 (Nat.le_refl _)
            have f8 : ∀ g, blk A3 = some g → w7.heap.size ≤ g := fun g hg => by
              rcases a3 with h | h
              · rw [h] at hg; cases hg
              · rw [h] at hg; injection hg with hg; omega
            have HO8 := Lib.hid (And.intro ho8 (And.intro b8 f8))
            clear a2 a3 b8 ho8 f8
            go_wp2_with (at_builtin; go_must (refine row_append rfl (.tmp 77) (.tmp 78) 43 9 (.string ByteArray.empty) 16 rfl Try.underlying43 infoStr rfl (by decide) A3 n c3 (strs l) A2 n2 c2 (strs l2) rfl rfl a1 (RA2.out.rd.below HO8.out.1.bel (Nat.le_refl _)) (strs_oneCell l2) (by omega) ?_))
            intro A4 c4 w9 d1 d2 d3
            rw [← strs_append] at d1
            have b9 : Below w7.heap.size w7 w9 := HO8.out.2.1.trans (d2.below HO8.out.2.1.size (fun b _ hb => HO8.out.2.2 b hb))
            have ho9 := HO.out.below b9 (Nat.le_refl _)
            have hkeys := own2_keys ho9.swap (Nat.le_refl _)
            rw [HC.out.1] at hkeys
            have HD := Lib.hid d1
            clear d1 d2 d3 b9 ho9 a1 HO8
            go_wp2_with fail
            refine hkeys.mono ?_
            rintro e w10 ⟨D, cd, rfl, rD, aD, bD, ho⟩
            have hall := HD.out.block (fun g hg => bD.block g (HD.out.lt hg))
            have hlate := lately_any w10 A4 (n + n2) c4 (l ++ l2) z hall.rd (by omega)
            rw [HC.out.2.1] at hlate
            clear hkeys aD bD hall HD
            go_wp2_with fail
            refine hlate.mono ?_
            rintro e w11 ⟨E, ce, rfl, rE, aE, bE⟩
            replace rD := rD.block (fun g hg => bE.block g (rD.lt hg))
            have hsame := same_yes w11 D E k cd ce _ (by rw [← HC.out.2.2]; exact rD.rd) rE.rd
            have HB := Lib.hid (ho.below bE (Nat.le_refl _)).bel
            clear hlate rD rE aE bE ho
            go_wp2_with fail
            refine hsame.mono ?_
            rintro e w12 ⟨rfl, bS⟩
            clear hsame
            go_wp2
            go_ret
            exact ⟨by simp, HB.out.trans (bS.mono HB.out.size)⟩
end Go.Proofs.Ytipiohkpdkandaa
