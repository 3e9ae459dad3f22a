/-
  lately (chapter 05): what it computes, and its walk. Conditions: none.
-/
import Derived.Test.YtipiohkpdkandaaDictE
namespace Go.Proofs.Ytipiohkpdkandaa
set_option linter.unusedVariables false
set_option linter.unusedSimpArgs false
open Go.RowKit

theorem tl_inj {x y : ByteArray} (h : x.toList = y.toList) : x = y := by
  simp [ByteArray.toList_eq] at h
  exact ByteArray.ext_iff.2 h
theorem tl_beq (x y : ByteArray) : (x.toList == y.toList) = decide (x = y) := by
  by_cases h : x = y
  · subst h; simp
  · have : x.toList ≠ y.toList := fun e => h (tl_inj e)
    simp [h, this]
open Classical in
noncomputable def lateStep (n : Int) (out : List ByteArray) (k : ByteArray) : List ByteArray := if keyOk k ∧ k ∉ out ∧ (out.length : Int) < n then out ++ [k] else out
noncomputable def late (n : Int) (l : List ByteArray) : List ByteArray := l.foldr (fun k out => lateStep n out k) []
theorem late_cons (n : Int) (k : ByteArray) (l : List ByteArray) : late n (k :: l) = lateStep n (late n l) k := rfl
theorem late_full {n : Int} {l : List ByteArray} (h : ¬ ((late n l).length : Int) < n) (l' : List ByteArray) : late n (l' ++ l) = late n l := by
  induction l' with
  | nil => rfl
  | cons k l' ih =>
    rw [List.cons_append, late_cons, ih]
    unfold lateStep
    rw [if_neg (by rintro ⟨_, _, h3⟩; exact h h3)]
theorem lateStep_yes {n : Int} {out : List ByteArray} {k : ByteArray} (h1 : keyOk k) (h2 : k ∉ out) (h3 : (out.length : Int) < n) : lateStep n out k = out ++ [k] := by unfold lateStep; rw [if_pos ⟨h1, h2, h3⟩]
theorem lateStep_no {n : Int} {out : List ByteArray} {k : ByteArray} (h : ¬ keyOk k ∨ k ∈ out) : lateStep n out k = out := by
  unfold lateStep
  rw [if_neg]
  rintro ⟨a, b, _⟩
  rcases h with h | h
  · exact h a
  · exact b h

set_option maxRecDepth 100000 in
set_option maxHeartbeats 4000000 in
theorem lately_any (w : World) (A : Option Addr) (n c : Nat) (l : List ByteArray) (r : Int) (ha : Rd w A n (strs l)) (hn : n * 16 ≤ 140737488351232) :
    Calls Try.prog 29 #[.slice A n c, .int .i64 r] w (StrsNew w (late r l) (late r l).length) := by
  have hl : l.length = n := by have := ha.len; rwa [strs_length] at this
  have HA := Lib.hid ha
  have HL := Lib.hid hl
  have hw0 : IntKind.i64.wrap ((n : Int) - 1) = (n : Int) - 1 := IntWalk.i64_in _ (by omega)
  clear ha hl
  go_enter Try.func29, Try.ntmps29
  go_wp2_with fail
  go_loopg [5, 6] n (fun gk v5 v6 wr => ∃ (x : Int) (m c' : Nat) (A' : Option Addr) (out : List ByteArray), v6 = .int .i64 x ∧ v5 = .slice A' m c' ∧ x = (gk : Int) - 1 ∧ gk ≤ n ∧ Row wr 9 A' m c' (strs out) ∧ (∀ g, blk A' = some g → w.heap.size ≤ g) ∧ Below w.heap.size w wr ∧ Hid (out = late r (l.drop gk)) ∧ m + gk ≤ n)
  case atStart => exact ⟨_, 0, 0, none, [], rfl, rfl, rfl, Nat.le_refl _, Row.nil _ _, (fun g h => by cases h), Below.refl _ _, by rw [List.drop_of_length_le (by rw [HL.out]; exact Nat.le_refl _)]; exact (rfl : [] = late r []), by omega⟩
  case round =>
    clear hw0
    obtain ⟨x, m, c', A', out, rfl, rfl, hx, hg, hr, hA', hb, hout, hmg⟩ := hrel
    have hol : out.length = m := by have := hr.len; rwa [strs_length] at this
    by_cases hj : gk = 0
    · have hx0 : x < 0 := by omega
      have HX : Hid (out = late r l) := by have := hout.out; subst hj; rwa [List.drop_zero] at this
      have HY := Lib.hid (And.intro hr (And.intro hA' hb))
      clear hr hA' hb hout hx hg hmg
      go_wp2
      go_ret
      have e := HX.out
      subst e
      subst hol
      exact ⟨A', c', rfl, HY.out⟩
    · obtain ⟨i, rfl⟩ : ∃ i, gk = i + 1 := ⟨gk - 1, by omega⟩
      obtain rfl : x = (i : Int) := by omega
      by_cases hmr : (m : Int) < r
      · have hin : i < n := by omega
        have hini : (i : Int) < n := by omega
        obtain ⟨key, hkey⟩ : ∃ key, l[i]? = some key := ⟨_, List.getElem?_eq_getElem (by rw [HL.out]; exact hin)⟩
        obtain ⟨b1, o1, rfl, h1⟩ := (HA.out.below hb (Nat.le_refl _)).form (by omega)
        have e1 := h1 i _ (strs_get hkey)
        have hdrop : l.drop i = key :: l.drop (i + 1) := by
          rw [List.drop_eq_getElem_cons (by rw [HL.out]; exact hin)]
          congr 1
          exact Option.some.inj ((List.getElem?_eq_getElem _).symm.trans hkey)
        have HS : Hid (late r (l.drop i) = lateStep r out key) := by
          show late r (l.drop i) = lateStep r out key
          rw [hdrop, late_cons, ← hout.out]
        have HW := Lib.hid (And.intro hr (And.intro hA' hb))
        have hcs : ((key.size : Int) < 1 ∧ ¬ keyOk key) ∨ (1 ≤ (key.size : Int) ∧ 64 < (key.size : Int) ∧ ¬ keyOk key) ∨ (1 ≤ (key.size : Int) ∧ (key.size : Int) ≤ 64 ∧ keyOk key) := by
          unfold keyOk; omega
        have HKY := Lib.hid hkey
        clear hr hA' hb hout hdrop hkey h1 hx
        rcases hcs with ⟨k1, kok⟩ | ⟨k1, k2, kok⟩ | ⟨k1, k2, kok⟩
        all_goals
          have HK := Lib.hid kok
          clear kok
          go_wp2_with fail
          obtain ⟨w1, rfl⟩ : ∃ w1 : World, w1 = wr := ⟨_, rfl⟩
          go_loopg [7, 8] m (fun gq v7 v8 wq => ∃ (b : Bool) (k : Nat), v7 = .bool b ∧ v8 = .int .i64 k ∧ gq + k = m ∧ Hid (b = true ↔ ¬ keyOk key ∨ key ∈ out.take k) ∧ Below w1.heap.size w1 wq)
          case atStart =>
            refine ⟨_, 0, rfl, rfl, rfl, ?_, Below.refl _ _⟩
            have := HK.out
            show _ ↔ _
            first
              | (simp [k1, this]; done)
              | (simp [k1, k2, this]; omega)
              | (simp [this]; omega)
          case round =>
            obtain ⟨b, k, rfl, rfl, hk, HBK, hu⟩ := hrel
            clear e1
            have HA1 := (HA.out.below HW.out.2.2 (Nat.le_refl _)).below hu (Nat.le_refl _)
            obtain ⟨b1', o1', hAe, h1⟩ := HA1.form (by omega)
            obtain ⟨rfl, rfl⟩ : b1' = b1 ∧ o1' = o1 := by injection hAe with h; injection h with h1 h2; exact ⟨h1.symm, h2.symm⟩
            have e1 := h1 i _ (strs_get HKY.out)
            clear HA1 h1 hAe
            have HU := Lib.hid hu
            clear hu
            by_cases hkm : k < m
            · have hkmi : (k : Int) < m := by omega
              obtain ⟨y, hy⟩ : ∃ y, out[k]? = some y := ⟨_, List.getElem?_eq_getElem (by omega)⟩
              have hr1 := HW.out.1.block (fun g hg => HU.out.block g (HW.out.1.lt hg))
              obtain ⟨g2, hA2⟩ : ∃ g, A' = some ⟨g, 0, none⟩ := by
                rcases hr1.form with ⟨_, h0, _⟩ | ⟨g, _, h0, _⟩
                · omega
                · exact ⟨g, h0⟩
              subst hA2
              have e2 := hr1.cell (strs_get hy)
              have HY := Lib.hid (take_succ_get hy)
              clear hr1 hy
              cases b
              · go_wp2_with fail
                go_quiet (fail)
                go_wp2
                go_roundg (m - k - 1)
                case measure => omega
                case rel =>
                  refine ⟨_, k + 1, rfl, by go_num, by omega, ?_, below_drewN HU.out _⟩
                  have h1 := HBK.out
                  have h2 := HY.out
                  show _ ↔ _
                  rw [h2, tl_beq]
                  simp at h1 ⊢
                  constructor
                  · intro h; exact .inr (.inr h.symm)
                  · rintro (h | h | h)
                    · exact absurd h1.1 h
                    · exact absurd h h1.2
                    · exact h.symm
              · go_wp2_with fail
                go_quiet (fail)
                go_wp2
                go_roundg (m - k - 1)
                case measure => omega
                case rel =>
                  refine ⟨true, k + 1, rfl, by go_num, by omega, ?_, below_drewN HU.out _⟩
                  have h1 := HBK.out
                  have h2 := HY.out
                  show _ ↔ _
                  rw [h2]
                  simp at h1 ⊢
                  rcases h1 with h | h
                  · exact .inl h
                  · exact .inr (.inl h)
            · obtain rfl : k = m := by omega
              have HM : Hid (b = true ↔ ¬ keyOk key ∨ key ∈ out) := by
                have := HBK.out
                rwa [List.take_of_length_le (by omega)] at this
              have hr1 := HW.out.1.block (fun g hg => HU.out.block g (HW.out.1.lt hg))
              have HW1 : Hid (Below w.heap.size w wr) := HW.out.2.2.trans (HU.out.mono HW.out.2.2.size)
              clear HBK
              cases b
              · go_wp2_with (at_builtin; go_must (refine row_append1 rfl (.tmp 56) (.tmp 61) 43 9 (.string ByteArray.empty) 16 rfl Try.underlying43 infoStr rfl (by decide) A' k c' (strs out) (.string key) rfl rfl rfl hr1 (by omega) ?_))
                intro A1 c1' w2 a1 a2 a3
                have HX := Lib.hid (And.intro a1 (And.intro a2 a3))
                clear a1 a2 a3 hr1
                go_wp2
                go_roundg i
                case measure => omega
                case rel =>
                  refine ⟨_, k + 1, c1', A1, out ++ [key], by go_num, rfl, rfl, by omega, ?_, ?_, ?_, ?_, by omega⟩
                  · have := HX.out.1
                    rwa [show strs (out ++ [key]) = strs out ++ [.string key] by simp [strs]]
                  · intro g hg
                    rcases HX.out.2.2 with h | ⟨b, h, hb⟩
                    · exact HW.out.2.1 g (h ▸ hg)
                    · rw [h] at hg; injection hg with hg; have := HW1.out.size; omega
                  · exact HW1.out.trans (HX.out.2.1.below HW1.out.size (fun b _ h => HW.out.2.1 b h))
                  · show out ++ [key] = late r (l.drop i)
                    have h1 := HM.out
                    simp at h1
                    rw [HS.out, lateStep_yes h1.1 h1.2 (by rw [hol]; exact hmr)]
              · go_wp2
                go_roundg i
                case measure => omega
                case rel =>
                  refine ⟨_, _, _, _, out, by go_num, by first | rfl | go_num, rfl, by omega, hr1, HW.out.2.1, HW1.out, ?_, by omega⟩
                  show out = late r (l.drop i)
                  have h1 := HM.out
                  rw [HS.out, lateStep_no (by simpa using h1)]
      · have hmr' : r ≤ (m : Int) := by omega
        have HX : Hid (out = late r l) := by
          show out = late r l
          have h := late_full (n := r) (l := l.drop (i + 1)) (by rw [← hout.out, hol]; omega) (l.take (i + 1))
          rw [List.take_append_drop] at h
          rw [h]
          exact hout.out
        have HY := Lib.hid (And.intro hr (And.intro hA' hb))
        clear hr hA' hb hout hx hg
        go_wp2
        go_ret
        have e := HX.out
        subst e
        subst hol
        exact ⟨A', c', rfl, HY.out⟩
end Go.Proofs.Ytipiohkpdkandaa
