/-
  The walk of the law DictLast. Conditions: none.
-/
import Derived.Test.YtipiohkpdkandaaDictR
namespace Go.Proofs.Ytipiohkpdkandaa
set_option linter.unusedVariables false
set_option linter.unusedSimpArgs false
open Go.RowKit

set_option maxRecDepth 100000 in
set_option maxHeartbeats 8000000 in
theorem dictLast_walk (W : World) (r : Int) (_w : (Lit.int .i64 r).wf = true) (A : Option Addr) (n c : Nat) (l : List ByteArray) (ra : StrsArg W A n c l) :
    Calls Try.prog 5 #[.int .i64 r, .slice A n c] W fun e W' => e = .returned (.bool true) ∧ Below W.heap.size W W' := by
  have aw := awake_any W
  have hl := ra.len
  clear _w
  by_cases hr : r < 1 ∨ 64 < r
  · have hnew := fun w => new_no r w hr
    by_cases h1 : r < 1
    · clear hr ra hl
      go_enter Try.func5, Try.ntmps5
      go_wp2_with fail
      refine aw.mono ?_
      rintro e w1 ⟨rfl, hb⟩
      clear aw
      go_wp2_with fail
      refine (hnew _).mono ?_
      rintro e w2 ⟨rfl, rfl⟩
      clear hnew
      go_wp2
      go_ret
      exact ⟨by simp [*], hb⟩
    · have h2 : 64 < r := by omega
      clear hr ra hl
      go_enter Try.func5, Try.ntmps5
      go_wp2_with fail
      refine aw.mono ?_
      rintro e w1 ⟨rfl, hb⟩
      clear aw
      go_wp2_with fail
      refine (hnew _).mono ?_
      rintro e w2 ⟨rfl, rfl⟩
      clear hnew
      go_wp2
      go_ret
      exact ⟨by simp [*], hb⟩
  · obtain ⟨q, rfl⟩ := Int.eq_ofNat_of_zero_le (show 0 ≤ r by omega)
    have hq1 : 1 ≤ q := by omega
    have hq2 : q ≤ 64 := by omega
    have hcap := ra.cap
    have hroom := ra.room
    have RA := Lib.hid ra
    have HL := Lib.hid hl
    clear hr ra hl
    go_enter Try.func5, Try.ntmps5
    go_wp2_with fail
    refine aw.mono ?_
    rintro e w1 ⟨rfl, hb⟩
    clear aw
    have hnew := own_new (B := W.heap.size) (W := W) (w := w1) q hq1 hq2 hb (Nat.le_refl _)
    clear hb
    go_wp2_with fail
    refine hnew.mono ?_
    rintro e w2 ⟨p, rfl, ho⟩
    clear hnew
    go_wp2_with fail
    go_loopg [8] n (fun gk v8 wr => ∃ (i : Nat) (d : DD), v8 = .int .i64 i ∧ gk + i = n ∧ i ≤ 200 ∧ Hid (d.room = q) ∧ Hid (recent d = late (q : Int) (l.take i)) ∧ Own W.heap.size W wr p d)
    case atStart => exact ⟨0, ⟨q, [], []⟩, rfl, by omega, by omega, rfl, rfl, ho⟩
    case round =>
      clear ho
      obtain ⟨i, d, rfl, hi, hi200, hdr, hrec, ho⟩ := hrel
      by_cases hin : i < n
      · by_cases hi2 : i < 200
        · have hini : (i : Int) < n := by omega
          have hi2i : (i : Int) < 200 := by omega
          obtain ⟨key, hkey⟩ : ∃ key, l[i]? = some key := ⟨_, List.getElem?_eq_getElem (by rw [HL.out]; exact hin)⟩
          have hkm := RA.out.max key (List.mem_of_getElem? hkey)
          have hcellAll : ∃ b o, A = some ⟨b, o, none⟩ ∧ ∀ w, Below W.heap.size W w → w.cell? ⟨b, o + i, none⟩ = some (.string key) := by
            obtain ⟨b, o, rfl, _⟩ := RA.out.rd.form (by omega)
            refine ⟨b, o, rfl, fun w hb => ?_⟩
            obtain ⟨b', o', e, h⟩ := (RA.out.rd.below hb (Nat.le_refl _)).form (by omega)
            injection e with e; injection e with e1 e2; subst e1; subst e2
            exact h i _ (strs_get hkey)
          obtain ⟨b, o, rfl, hcell⟩ := hcellAll
          have hrdAll : ∀ w, Below W.heap.size W w → Rd w (some ⟨b, o, none⟩) (i + 1) (strs (l.take (i + 1))) := by
            intro w hb
            rw [← strs_take]
            exact (RA.out.rd.below hb (Nat.le_refl _)).take (by omega)
          have hsub := run_sub_h (P := Try.prog) Try.underlying43 (by kernel_rfl) (some ⟨b, o, none⟩) n c (i + 1) (by omega)
          rw [show ((i + 1 : Nat) : Int) = (i : Int) + 1 by omega] at hsub
          have hwr : IntKind.i64.wrap ((i : Int) + 1) = (i : Int) + 1 := IntWalk.i64_in _ (by omega)
          obtain ⟨d', s, hd, er, was, hu, hlk, hd'i, hd'r, hcs⟩ := use_cases ho.inv key
          have hrec' : recent d' = late (q : Int) (l.take (i + 1)) := by
            have := recent_step ho.inv (l := l.take i) (by rw [hdr.out]; exact hrec.out) key
            rw [hu, hdr.out, ← take_succ_get hkey] at this
            exact this
          have hlook := own_look ho key hkm
          rw [hlk] at hlook
          have huse := own_use ho (Nat.le_refl _) key hkm
          rw [hu] at huse
          dsimp only at huse
          have h0 := hcell _ ho.bel
          rw [hdr.out] at hcs
          have hdr' : d'.room = q := by rw [hd'r]; exact hdr.out
          have HH := Lib.hid (And.intro hrec' (And.intro hd'i (And.intro hdr' (And.intro hkey ho.inv))))
          obtain ⟨m, hm⟩ : ∃ m, d'.keys.length = m := ⟨_, rfl⟩
          have hm64 : m ≤ 64 := by have := hd'i.le; omega
          have hlen : (late (q : Int) (l.take (i + 1))).length = m := by rw [← hrec', recent_length hd'i, hm]
          have HM := Lib.hid (And.intro hm hlen)
          clear hrec hu hlk hrec' hd'i hd'r hdr' hkey ho hm hlen
          rcases hcs with ⟨rfl, rfl, rfl, hsr, hl', ho0, _⟩ | ⟨rfl, rfl, rfl, hsr, hl', ho0⟩ | ⟨rfl, rfl, rfl, rfl, rfl⟩
          · have hs0 : (0 : Int) ≤ s := by omega
            have hsr' : (s : Int) < q := by omega
            go_wp2_with fail
            refine hlook.mono ?_
            rintro e w3 ⟨rfl, rfl⟩
            clear hlook
            go_wp2_with fail
            refine huse.mono ?_
            rintro e w3 ⟨rfl, ho⟩
            clear huse h0
            have h0 := hcell _ ho.bel
            have hkeys := own_keys ho (Nat.le_refl _)
            rw [HM.out.1] at hkeys
            clear ho
            go_wp2_with fail
            refine hkeys.mono ?_
            rintro e w4 ⟨B, cb, rfl, rB, aB, bB, ho⟩
            have hlate := lately_any w4 _ (i + 1) c _ q (hrdAll w4 ho.bel) (by omega)
            rw [HM.out.2] at hlate
            clear hkeys aB bB h0
            go_wp2_with fail
            refine hlate.mono ?_
            rintro e w5 ⟨C, cc, rfl, rC, aC, bC⟩
            replace ho := ho.below bC (Nat.le_refl _)
            replace rB := rB.block (fun g hg => bC.block g (rB.lt hg))
            have hsame := same_yes w5 B C m cb cc _ (by rw [← HH.out.1]; exact rB.rd) rC.rd
            clear hlate rC aC bC
            go_wp2_with fail
            refine hsame.mono ?_
            rintro e w6 ⟨rfl, bS⟩
            replace ho := ho.below bS (Nat.le_refl _)
            replace rB := rB.block (fun g hg => bS.block g (rB.lt hg))
            have h0 := hcell _ ho.bel
            have hlook := own_look ho key hkm
            rw [hl'] at hlook
            clear hsame bS
            go_wp2_with fail
            refine hlook.mono ?_
            rintro e w7 ⟨rfl, rfl⟩
            clear hlook h0 hsub hwr
            go_wp2_with fail
            have HO := Lib.hid (And.intro ho (And.intro rB ho0))
            clear ho rB ho0 hl' hsr hsr' hs0
            try (rename 0 ≤ (s : Int) ∧ ¬ q ≤ s => hbad; clear hbad)
            try (rename 0 ≤ (s : Int) ∧ ¬ q ≤ s => hbad; clear hbad)
            go_loopg [15] m (fun gq v15 wq => ∃ k : Nat, v15 = .int .i64 k ∧ gq + k = m ∧ w6 = wq)
            case atStart => exact ⟨0, rfl, by omega, rfl⟩
            case round =>
              obtain ⟨k, rfl, hk, rfl⟩ := hrel
              by_cases hkm2 : k < m
              · have hkmi : (k : Int) < m := by omega
                obtain ⟨ky, sk, f1, f2, f3, f4, _⟩ := look_recent HH.out.2.1 (j := k) (by rw [HM.out.1]; exact hkm2)
                obtain ⟨gB, hB⟩ : ∃ g, B = some ⟨g, 0, none⟩ := by
                  rcases HO.out.2.1.form with ⟨_, h0, _⟩ | ⟨g, _, h0, _⟩
                  · omega
                  · exact ⟨g, h0⟩
                subst hB
                have hcB := HO.out.2.1.cell (strs_get f1)
                have hlook := own_look HO.out.1 ky (by unfold maxLen; omega)
                rw [f3] at hlook
                have hsk0 : (0 : Int) ≤ sk := by omega
                by_cases hk0 : k = 0
                · have hk0i : (k : Int) ≤ 0 := by omega
                  clear f1 f2 f3 f4 hk0
                  go_wp2_with fail
                  refine hlook.mono ?_
                  rintro e w7 ⟨rfl, rfl⟩
                  clear hlook
                  go_wp2
                  go_roundg (m - k - 1)
                  case measure => omega
                  case rel => exact ⟨k + 1, by go_num, by omega, rfl⟩
                · have hk0i : (0 : Int) < k := by omega
                  have hne : (sk : Int) ≠ s := by have := order_ne HH.out.2.1 f2 HO.out.2.2 hk0; omega
                  clear f1 f2 f3 f4 hk0
                  go_wp2_with fail
                  refine hlook.mono ?_
                  rintro e w7 ⟨rfl, rfl⟩
                  clear hlook
                  go_wp2
                  go_roundg (m - k - 1)
                  case measure => omega
                  case rel => exact ⟨k + 1, by go_num, by omega, rfl⟩
              · have hkmi : (m : Int) ≤ k := by omega
                go_wp2
                go_roundg (n - i - 1)
                case measure => omega
                case rel => exact ⟨i + 1, d', by go_num, by omega, by omega, HH.out.2.2.1, HH.out.1, HO.out.1⟩
          · have hs0 : (0 : Int) ≤ s := by omega
            have hsr' : (s : Int) < q := by omega
            go_wp2_with fail
            refine hlook.mono ?_
            rintro e w3 ⟨rfl, rfl⟩
            clear hlook
            go_wp2_with fail
            refine huse.mono ?_
            rintro e w3 ⟨rfl, ho⟩
            clear huse h0
            have h0 := hcell _ ho.bel
            have hkeys := own_keys ho (Nat.le_refl _)
            rw [HM.out.1] at hkeys
            clear ho
            go_wp2_with fail
            refine hkeys.mono ?_
            rintro e w4 ⟨B, cb, rfl, rB, aB, bB, ho⟩
            have hlate := lately_any w4 _ (i + 1) c _ q (hrdAll w4 ho.bel) (by omega)
            rw [HM.out.2] at hlate
            clear hkeys aB bB h0
            go_wp2_with fail
            refine hlate.mono ?_
            rintro e w5 ⟨C, cc, rfl, rC, aC, bC⟩
            replace ho := ho.below bC (Nat.le_refl _)
            replace rB := rB.block (fun g hg => bC.block g (rB.lt hg))
            have hsame := same_yes w5 B C m cb cc _ (by rw [← HH.out.1]; exact rB.rd) rC.rd
            clear hlate rC aC bC
            go_wp2_with fail
            refine hsame.mono ?_
            rintro e w6 ⟨rfl, bS⟩
            replace ho := ho.below bS (Nat.le_refl _)
            replace rB := rB.block (fun g hg => bS.block g (rB.lt hg))
            have h0 := hcell _ ho.bel
            have hlook := own_look ho key hkm
            rw [hl'] at hlook
            clear hsame bS
            go_wp2_with fail
            refine hlook.mono ?_
            rintro e w7 ⟨rfl, rfl⟩
            clear hlook h0 hsub hwr
            go_wp2_with fail
            have HO := Lib.hid (And.intro ho (And.intro rB ho0))
            clear ho rB ho0 hl' hsr hsr' hs0
            try (rename 0 ≤ (s : Int) ∧ ¬ q ≤ s => hbad; clear hbad)
            try (rename 0 ≤ (s : Int) ∧ ¬ q ≤ s => hbad; clear hbad)
            go_loopg [15] m (fun gq v15 wq => ∃ k : Nat, v15 = .int .i64 k ∧ gq + k = m ∧ w6 = wq)
            case atStart => exact ⟨0, rfl, by omega, rfl⟩
            case round =>
              obtain ⟨k, rfl, hk, rfl⟩ := hrel
              by_cases hkm2 : k < m
              · have hkmi : (k : Int) < m := by omega
                obtain ⟨ky, sk, f1, f2, f3, f4, _⟩ := look_recent HH.out.2.1 (j := k) (by rw [HM.out.1]; exact hkm2)
                obtain ⟨gB, hB⟩ : ∃ g, B = some ⟨g, 0, none⟩ := by
                  rcases HO.out.2.1.form with ⟨_, h0, _⟩ | ⟨g, _, h0, _⟩
                  · omega
                  · exact ⟨g, h0⟩
                subst hB
                have hcB := HO.out.2.1.cell (strs_get f1)
                have hlook := own_look HO.out.1 ky (by unfold maxLen; omega)
                rw [f3] at hlook
                have hsk0 : (0 : Int) ≤ sk := by omega
                by_cases hk0 : k = 0
                · have hk0i : (k : Int) ≤ 0 := by omega
                  clear f1 f2 f3 f4 hk0
                  go_wp2_with fail
                  refine hlook.mono ?_
                  rintro e w7 ⟨rfl, rfl⟩
                  clear hlook
                  go_wp2
                  go_roundg (m - k - 1)
                  case measure => omega
                  case rel => exact ⟨k + 1, by go_num, by omega, rfl⟩
                · have hk0i : (0 : Int) < k := by omega
                  have hne : (sk : Int) ≠ s := by have := order_ne HH.out.2.1 f2 HO.out.2.2 hk0; omega
                  clear f1 f2 f3 f4 hk0
                  go_wp2_with fail
                  refine hlook.mono ?_
                  rintro e w7 ⟨rfl, rfl⟩
                  clear hlook
                  go_wp2
                  go_roundg (m - k - 1)
                  case measure => omega
                  case rel => exact ⟨k + 1, by go_num, by omega, rfl⟩
              · have hkmi : (m : Int) ≤ k := by omega
                go_wp2
                go_roundg (n - i - 1)
                case measure => omega
                case rel => exact ⟨i + 1, d', by go_num, by omega, by omega, HH.out.2.2.1, HH.out.1, HO.out.1⟩
          · skip
            go_wp2_with fail
            refine hlook.mono ?_
            rintro e w3 ⟨rfl, rfl⟩
            clear hlook
            go_wp2_with fail
            refine huse.mono ?_
            rintro e w3 ⟨rfl, ho⟩
            clear huse h0
            have h0 := hcell _ ho.bel
            have hkeys := own_keys ho (Nat.le_refl _)
            rw [HM.out.1] at hkeys
            clear ho
            go_wp2_with fail
            refine hkeys.mono ?_
            rintro e w4 ⟨B, cb, rfl, rB, aB, bB, ho⟩
            have hlate := lately_any w4 _ (i + 1) c _ q (hrdAll w4 ho.bel) (by omega)
            rw [HM.out.2] at hlate
            clear hkeys aB bB h0
            go_wp2_with fail
            refine hlate.mono ?_
            rintro e w5 ⟨C, cc, rfl, rC, aC, bC⟩
            replace ho := ho.below bC (Nat.le_refl _)
            replace rB := rB.block (fun g hg => bC.block g (rB.lt hg))
            have hsame := same_yes w5 B C m cb cc _ (by rw [← HH.out.1]; exact rB.rd) rC.rd
            clear hlate rC aC bC
            go_wp2_with fail
            refine hsame.mono ?_
            rintro e w6 ⟨rfl, bS⟩
            replace ho := ho.below bS (Nat.le_refl _)
            replace rB := rB.block (fun g hg => bS.block g (rB.lt hg))
            clear hsame bS
            go_wp2_with fail
            have HO := Lib.hid (And.intro ho (And.intro rB trivial))
            clear ho rB
            go_loopg [15] m (fun gq v15 wq => ∃ k : Nat, v15 = .int .i64 k ∧ gq + k = m ∧ w6 = wq)
            case atStart => exact ⟨0, rfl, by omega, rfl⟩
            case round =>
              obtain ⟨k, rfl, hk, rfl⟩ := hrel
              by_cases hkm2 : k < m
              · have hkmi : (k : Int) < m := by omega
                obtain ⟨ky, sk, f1, f2, f3, f4, _⟩ := look_recent HH.out.2.1 (j := k) (by rw [HM.out.1]; exact hkm2)
                obtain ⟨gB, hB⟩ : ∃ g, B = some ⟨g, 0, none⟩ := by
                  rcases HO.out.2.1.form with ⟨_, h0, _⟩ | ⟨g, _, h0, _⟩
                  · omega
                  · exact ⟨g, h0⟩
                subst hB
                have hcB := HO.out.2.1.cell (strs_get f1)
                have hlook := own_look HO.out.1 ky (by unfold maxLen; omega)
                rw [f3] at hlook
                have hsk0 : (0 : Int) ≤ sk := by omega
                by_cases hk0 : k = 0
                · have hk0i : (k : Int) ≤ 0 := by omega
                  clear f1 f2 f3 f4 hk0
                  go_wp2_with fail
                  refine hlook.mono ?_
                  rintro e w7 ⟨rfl, rfl⟩
                  clear hlook
                  go_wp2
                  go_roundg (m - k - 1)
                  case measure => omega
                  case rel => exact ⟨k + 1, by go_num, by omega, rfl⟩
                · have hk0i : (0 : Int) < k := by omega
                  by_cases hsz : sk = 0
                  · have hszi : (sk : Int) = 0 := by omega
                    clear f1 f2 f3 f4 hk0 hsk0
                    subst hsz
                    go_wp2_with fail
                    refine hlook.mono ?_
                    rintro e w7 ⟨rfl, rfl⟩
                    clear hlook hszi
                    go_wp2
                    go_roundg (m - k - 1)
                    case measure => omega
                    case rel => exact ⟨k + 1, by go_num, by omega, rfl⟩
                  · have hszi : (sk : Int) ≠ 0 := by omega
                    clear f1 f2 f3 f4 hk0
                    go_wp2_with fail
                    refine hlook.mono ?_
                    rintro e w7 ⟨rfl, rfl⟩
                    clear hlook
                    go_wp2
                    go_roundg (m - k - 1)
                    case measure => omega
                    case rel => exact ⟨k + 1, by go_num, by omega, rfl⟩
              · have hkmi : (m : Int) ≤ k := by omega
                go_wp2
                go_roundg (n - i - 1)
                case measure => omega
                case rel => exact ⟨i + 1, d', by go_num, by omega, by omega, HH.out.2.2.1, HH.out.1, HO.out.1⟩
        · have hi2i : (200 : Int) ≤ i := by omega
          have hini : (i : Int) < n := by omega
          have hb := Lib.hid ho.bel
          clear ho hrec hdr
          go_wp2
          go_ret
          exact ⟨rfl, hb.out⟩
      · have hini : (n : Int) ≤ i := by omega
        have hb := Lib.hid ho.bel
        clear ho hrec hdr
        go_wp2
        go_ret
        exact ⟨rfl, hb.out⟩
end Go.Proofs.Ytipiohkpdkandaa
