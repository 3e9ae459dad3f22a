/-
  The keys told by both dictionaries (reevelaw05.told): walk. Conditions: none.
-/
import Derived.Test.YtipiohkpdkandaaRefK
import Derived.Test.YtipiohkpdkandaaRefC
namespace Go.Proofs.Ytipiohkpdkandaa
set_option linter.unusedVariables false
set_option linter.unusedSimpArgs false
open Go.RowKit

set_option maxRecDepth 100000 in
set_option maxHeartbeats 4000000 in
theorem told_any {w : World} {p x : Nat} {d : DD} {N : Int} {S1 S2 : Nat → Prop} (h1 : DictAt w p d S1) (h2 : RefAt w x d N S2) (hN : N ≤ 4611686018427387903) :
    Calls Try.prog 35 #[.pointer (some ⟨p, 0, none⟩), .pointer (some ⟨x, 0, none⟩)] w fun e w' => e = .returned (.bool true) ∧ Below w.heap.size w w' := by
  have hk := keys_any h1
  have H1 := Lib.hid h1
  have H2 := Lib.hid h2
  have hn64 : d.keys.length ≤ 64 := by have := h1.inv.le; have := h1.inv.hi; omega
  obtain ⟨n, hn⟩ : ∃ n, d.keys.length = n := ⟨_, rfl⟩
  rw [hn] at hk hn64
  have HN := Lib.hid hn
  clear h1 h2 hn
  go_enter Try.func35, Try.ntmps35
  go_wp2_with fail
  refine hk.mono ?_
  rintro e w1 ⟨A, c, rfl, r1, a1, b1⟩
  have hk2 := refKeys_any (H2.out.below b1) hN
  rw [HN.out] at hk2
  have HA := Lib.hid (And.intro r1 (And.intro a1 b1))
  clear hk r1 a1 b1
  go_wp2_with fail
  refine hk2.mono ?_
  rintro e w2 ⟨A2, c2, rfl, r2, a2, b2⟩
  have r1 := HA.out.1.block (fun g hg => b2.block g (HA.out.1.lt hg))
  have hsame := same_yes w2 A A2 n c c2 (recent d) r1.rd r2.rd
  have HA2 := Lib.hid (And.intro r1 (And.intro r2 (And.intro a2 (HA.out.2.2.trans (b2.mono HA.out.2.2.size)))))
  clear hk2 r1 r2 a2 b2
  go_wp2_with fail
  refine hsame.mono ?_
  rintro e w3 ⟨rfl, b3⟩
  have hr1 : Row w3 9 A n c (strs (recent d)) := HA2.out.1.block (fun g hg => b3.block g (HA2.out.1.lt hg))
  have hr2 : Row w3 9 A2 n c2 (strs (recent d)) := HA2.out.2.1.block (fun g hg => b3.block g (HA2.out.2.1.lt hg))
  have HB3 : Hid (Below w.heap.size w w3) := HA2.out.2.2.2.trans (b3.mono HA2.out.2.2.2.size)
  have HNE : Hid (∀ g, blk A2 = some g → blk A ≠ some g) := fun g hg h => by
    have h1 := HA.out.1.lt h
    have h2 := HA2.out.2.2.1 g hg
    omega
  have HR2 := Lib.hid hr2
  clear hsame b3 hr2 HA2
  go_wp2_with fail
  go_loopg [8] n (fun gk v8 wr => ∃ (i : Nat) (ys : List Value), v8 = .int .i64 i ∧ gk + i = n ∧ Row wr 9 A n c ys ∧ Upd w3 wr (fun b => blk A = some b))
  case atStart => exact ⟨0, _, rfl, rfl, hr1, Upd.refl _ _⟩
  case round =>
    clear hr1
    obtain ⟨i, ys, rfl, hi, hr, hu⟩ := hrel
    by_cases hin : i < n
    · have hini : (i : Int) < n := by omega
      obtain ⟨g, hAg⟩ : ∃ g, A = some ⟨g, 0, none⟩ := by
        rcases hr.form with ⟨_, h0, _⟩ | ⟨g, _, h0, _⟩
        · omega
        · exact ⟨g, h0⟩
      subst hAg
      obtain ⟨y, hy⟩ : ∃ y, ys[i]? = some y := ⟨_, List.getElem?_eq_getElem (by rw [hr.len]; exact hin)⟩
      have cy := hr.cell hy
      have fy := hr.free i
      have hst := hr.store i (.string ⟨#[115, 112, 111, 105, 108, 116]⟩)
      have hu2 := hu.setCell (a := ⟨g, i, none⟩) (fun _ => rfl) (.string ⟨#[115, 112, 111, 105, 108, 116]⟩)
      have HH := Lib.hid (And.intro hst hu2)
      clear hst hu2 hr hu hy
      go_wp2
      go_roundg (n - i - 1)
      case measure => omega
      case rel => exact ⟨i + 1, _, by go_num, by omega, HH.out.1, HH.out.2⟩
    · have hini : (n : Int) ≤ i := by omega
      have hdf : decide (i < n) = false := decide_eq_false hin
      clear hin
      go_wp2_with fail
      go_loopg [9, 10] 5 (fun gk v9 v10 wq => ∃ (j c9 : Nat) (A9 : Option Addr) (zs : List Value), v10 = .int .i64 j ∧ v9 = .slice A9 (n + j) c9 ∧ gk + j = 5 ∧ Row wq 9 A9 (n + j) c9 zs ∧ Upd w3 wq (fun b => blk A = some b) ∧ ∀ g, blk A9 = some g → blk A = some g ∨ w3.heap.size ≤ g)
      case atStart => exact ⟨0, c, A, ys, rfl, rfl, rfl, hr, hu, fun g hg => .inl hg⟩
      case round =>
        clear hr hu
        obtain ⟨j, c9, A9, zs, rfl, rfl, hj, hr, hu, hA9⟩ := hrel
        by_cases hj5 : j < 5
        · have hj5i : (j : Int) < 5 := by omega
          have HU := Lib.hid (And.intro hu hA9)
          clear hu hA9
          go_wp2_with (at_builtin; go_must (refine row_append1 rfl (.tmp 34) (.tmp 35) 43 9 (.string ByteArray.empty) 16 rfl Try.underlying43 infoStr rfl (by decide) A9 (n + j) c9 zs (.string ⟨#[109, 111, 114, 101]⟩) rfl rfl rfl hr (by omega) ?_))
          intro A1 c1' w5 a1 a2 a3
          have HX := Lib.hid (And.intro a1 (And.intro a2 a3))
          clear a1 a2 a3 hr
          go_wp2
          go_roundg (5 - j - 1)
          case measure => omega
          case rel =>
            refine ⟨j + 1, c1', A1, _, by go_num, rfl, by omega, HX.out.1, HU.out.1.trans HX.out.2.1 (fun b hb h => ?_), fun g hg => ?_⟩
            · rcases HU.out.2 b h with h | h
              · exact h
              · omega
            · rcases HX.out.2.2 with h | ⟨b, h, hb⟩
              · exact HU.out.2 g (h ▸ hg)
              · rw [h] at hg; injection hg with hg; have := HU.out.1.size; exact .inr (by omega)
        · obtain rfl : j = 5 := by omega
          have hbw : Below w.heap.size w wr := HB3.out.trans (hu.below HB3.out.size (fun b _ h => HA.out.2.1 b h))
          have hk := keys_any (H1.out.kept (Upd.of_below hbw) (fun b hb => by have := H1.out.lt hb; omega))
          rw [HN.out] at hk
          have hr2 := HR2.out.kept hu (fun g hg h => HNE.out g hg h)
          have HB := Lib.hid (And.intro hbw hr2)
          clear hu hA9 hr hbw hr2
          go_wp2_with fail
          refine hk.mono ?_
          rintro e w5 ⟨A5, c5, rfl, r5, a5, b5⟩
          have hsame := same_yes w5 A5 A2 n c5 c2 (recent d) r5.rd (HB.out.2.block (fun g hg => b5.block g (HB.out.2.lt hg))).rd
          have HB5 : Hid (Below w.heap.size w w5) := HB.out.1.trans (b5.mono HB.out.1.size)
          clear hk r5 a5 b5
          go_wp2_with fail
          refine hsame.mono ?_
          rintro e w6 ⟨rfl, b6⟩
          have HB6 : Hid (Below w.heap.size w w6) := HB5.out.trans (b6.mono HB5.out.size)
          clear hsame b6
          go_wp2
          go_ret
          exact ⟨by simp, HB6.out⟩
end Go.Proofs.Ytipiohkpdkandaa
