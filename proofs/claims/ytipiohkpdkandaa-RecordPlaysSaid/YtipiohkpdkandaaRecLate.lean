/-
  Is a key among the late ones: walk. Conditions: none.
-/
import Derived.Test.YtipiohkpdkandaaDictN
import Derived.Test.YtipiohkpdkandaaDictQ
namespace Go.Proofs.Ytipiohkpdkandaa
set_option linter.unusedVariables false
set_option linter.unusedSimpArgs false
open Go.RowKit

theorem lateStep_mem {n : Int} {out : List ByteArray} {k x : ByteArray} (h : x ∈ out) : x ∈ lateStep n out k := by
  unfold lateStep
  split
  · exact List.mem_append_left _ h
  · exact h
theorem late_more {n : Int} {l : List ByteArray} {x : ByteArray} (h : x ∈ late n l) (l' : List ByteArray) : x ∈ late n (l' ++ l) := by
  induction l' with
  | nil => exact h
  | cons k l' ih => rw [List.cons_append, late_cons]; exact lateStep_mem ih
theorem late_drop {n : Int} {l : List ByteArray} {x : ByteArray} {i : Nat} (h : x ∈ late n (l.drop i)) : x ∈ late n l := by
  have := late_more h (l.take i)
  rwa [List.take_append_drop] at this
theorem lateStep_self {n : Int} {out : List ByteArray} {k : ByteArray} (h1 : keyOk k) (h3 : (out.length : Int) < n) : k ∈ lateStep n out k := by
  by_cases h : k ∈ out
  · exact lateStep_mem h
  · rw [lateStep_yes h1 h h3]; simp
def NearIs (w : World) (key : ByteArray) (L : List ByteArray) (e : Ending) (w' : World) : Prop := ∃ b, e = .returned (.bool b) ∧ (b = true → key ∈ L) ∧ Below w.heap.size w w'

set_option maxRecDepth 100000 in
set_option maxHeartbeats 4000000 in
theorem lately6_any (w : World) (A : Option Addr) (n c : Nat) (l : List ByteArray) (ky : ByteArray) (r : Int) (ha : Rd w A n (strs l)) (hn : n * 16 ≤ 140737488351232) (hok : ∀ k ∈ l, keyOk k) :
    Calls Try.prog 38 #[.slice A n c, .string ky, .int .i64 r] w (NearIs w ky (late r l)) := by
  have hl : l.length = n := by have := ha.len; rwa [strs_length] at this
  have HA := Lib.hid ha
  have HL := Lib.hid hl
  have HOK := Lib.hid hok
  have hw0 : IntKind.i64.wrap ((n : Int) - 1) = (n : Int) - 1 := IntWalk.i64_in _ (by omega)
  clear ha hl hok
  go_enter Try.func38, Try.ntmps38
  go_wp2_with fail
  go_loopg [7, 8] n (fun gk v7 v8 wr => ∃ (x : Int) (m c' : Nat) (A' : Option Addr) (out : List ByteArray), v8 = .int .i64 x ∧ v7 = .slice A' m c' ∧ x = (gk : Int) - 1 ∧ gk ≤ n ∧ Row wr 9 A' m c' (strs out) ∧ (∀ g, blk A' = some g → w.heap.size ≤ g) ∧ Below w.heap.size w wr ∧ Hid (out = late r (l.drop gk)) ∧ m + gk ≤ n)
  case atStart => exact ⟨_, 0, 0, none, [], rfl, rfl, rfl, Nat.le_refl _, Row.nil _ _, (fun g h => by cases h), Below.refl _ _, by rw [List.drop_of_length_le (by rw [HL.out]; exact Nat.le_refl _)]; exact (rfl : [] = late r []), by omega⟩
  case round =>
    clear hw0
    obtain ⟨x, m, c', A', out, rfl, rfl, hx, hg, hr, hA', hb, hout, hmg⟩ := hrel
    have hol : out.length = m := by have := hr.len; rwa [strs_length] at this
    by_cases hj : gk = 0
    · have hx0 : x < 0 := by omega
      have HY := Lib.hid hb
      clear hr hA' hb hout hx hg hmg
      go_wp2
      go_ret
      exact ⟨false, rfl, (fun h => by cases h), HY.out⟩
    · obtain ⟨i, rfl⟩ : ∃ i, gk = i + 1 := ⟨gk - 1, by omega⟩
      obtain rfl : x = (i : Int) := by omega
      by_cases hmr : (m : Int) < r
      · have hin : i < n := by omega
        have hini : (i : Int) < n := by omega
        obtain ⟨key, hkey⟩ : ∃ key, l[i]? = some key := ⟨_, List.getElem?_eq_getElem (by rw [HL.out]; exact hin)⟩
        obtain ⟨b1, o1, rfl, h1⟩ := (HA.out.below hb (Nat.le_refl _)).form (by omega)
        have e1 := h1 i _ (strs_get hkey)
        have hdrop : l.drop i = key :: l.drop (i + 1) := by
          rw [List.drop_eq_getElem_cons (by rw [HL.out]; exact hin)]
          congr 1
          exact Option.some.inj ((List.getElem?_eq_getElem _).symm.trans hkey)
        have HS : Hid (late r (l.drop i) = lateStep r out key) := by
          show late r (l.drop i) = lateStep r out key
          rw [hdrop, late_cons, ← hout.out]
        have HW := Lib.hid (And.intro hr (And.intro hA' hb))
        have HK := Lib.hid (HOK.out key (List.mem_of_getElem? hkey))
        have HKY := Lib.hid hkey
        clear hr hA' hb hout hdrop hkey h1 hx
        go_wp2_with fail
        obtain ⟨w1, rfl⟩ : ∃ w1 : World, w1 = wr := ⟨_, rfl⟩
        go_loopg [9, 10] m (fun gq v9 v10 wq => ∃ (b : Bool) (k : Nat), v9 = .bool b ∧ v10 = .int .i64 k ∧ gq + k = m ∧ Hid (b = true ↔ key ∈ out.take k) ∧ Below w1.heap.size w1 wq)
        case atStart => exact ⟨_, 0, rfl, rfl, rfl, (show _ ↔ _ by simp), Below.refl _ _⟩
        case round =>
          obtain ⟨b, k, rfl, rfl, hk, HBK, hu⟩ := hrel
          clear e1
          have HA1 := (HA.out.below HW.out.2.2 (Nat.le_refl _)).below hu (Nat.le_refl _)
          obtain ⟨b1', o1', hAe, h1⟩ := HA1.form (by omega)
          obtain ⟨rfl, rfl⟩ : b1' = b1 ∧ o1' = o1 := by injection hAe with h; injection h with h1 h2; exact ⟨h1.symm, h2.symm⟩
          have e1 := h1 i _ (strs_get HKY.out)
          clear HA1 h1 hAe
          have HU := Lib.hid hu
          clear hu
          by_cases hkm : k < m
          · have hkmi : (k : Int) < m := by omega
            obtain ⟨y, hy⟩ : ∃ y, out[k]? = some y := ⟨_, List.getElem?_eq_getElem (by omega)⟩
            have hr1 := HW.out.1.block (fun g hg => HU.out.block g (HW.out.1.lt hg))
            obtain ⟨g2, hA2⟩ : ∃ g, A' = some ⟨g, 0, none⟩ := by
              rcases hr1.form with ⟨_, h0, _⟩ | ⟨g, _, h0, _⟩
              · omega
              · exact ⟨g, h0⟩
            subst hA2
            have e2 := hr1.cell (strs_get hy)
            have HY := Lib.hid (take_succ_get hy)
            clear hr1 hy
            cases b
            · go_wp2_with fail
              go_quiet (fail)
              go_wp2
              go_roundg (m - k - 1)
              case measure => omega
              case rel =>
                refine ⟨_, k + 1, rfl, by go_num, by omega, ?_, below_drewN HU.out _⟩
                have h1 := HBK.out
                have h2 := HY.out
                show _ ↔ _
                rw [h2, tl_beq]
                simp at h1 ⊢
                constructor
                · intro h; exact .inr h.symm
                · rintro (h | h)
                  · exact absurd h h1
                  · exact h.symm
            · go_wp2_with fail
              go_quiet (fail)
              go_wp2
              go_roundg (m - k - 1)
              case measure => omega
              case rel =>
                refine ⟨true, k + 1, rfl, by go_num, by omega, ?_, below_drewN HU.out _⟩
                have h1 := HBK.out
                have h2 := HY.out
                show _ ↔ _
                rw [h2]
                simp at h1 ⊢
                exact .inl h1
          · obtain rfl : k = m := by omega
            have HM : Hid (b = true ↔ key ∈ out) := by
              have := HBK.out
              rwa [List.take_of_length_le (by omega)] at this
            have hr1 := HW.out.1.block (fun g hg => HU.out.block g (HW.out.1.lt hg))
            have HW1 : Hid (Below w.heap.size w wr) := HW.out.2.2.trans (HU.out.mono HW.out.2.2.size)
            clear HBK
            by_cases hkk : key = ky
            · subst hkk
              have HF := Lib.hid (late_drop (show key ∈ late r (l.drop i) by rw [HS.out]; exact lateStep_self HK.out (by rw [hol]; exact hmr)))
              clear hr1
              go_wp2
              go_ret
              exact ⟨true, rfl, fun _ => HF.out, HW1.out⟩
            · have hne : (key.toList == ky.toList) = false := by rw [tl_beq]; simpa using hkk
              clear hkk
              cases b
              · go_wp2_with (at_builtin; go_must (refine row_append1 rfl (.tmp 50) (.tmp 55) 43 9 (.string ByteArray.empty) 16 rfl Try.underlying43 infoStr rfl (by decide) A' k c' (strs out) (.string key) rfl rfl rfl hr1 (by omega) ?_))
                intro A1 c1' w2 a1 a2 a3
                have HX := Lib.hid (And.intro a1 (And.intro a2 a3))
                clear a1 a2 a3 hr1
                go_wp2
                go_roundg i
                case measure => omega
                case rel =>
                  refine ⟨_, k + 1, c1', A1, out ++ [key], by go_num, rfl, rfl, by omega, ?_, ?_, ?_, ?_, by omega⟩
                  · have := HX.out.1
                    rwa [show strs (out ++ [key]) = strs out ++ [.string key] by simp [strs]]
                  · intro g hg
                    rcases HX.out.2.2 with h | ⟨b, h, hb⟩
                    · exact HW.out.2.1 g (h ▸ hg)
                    · rw [h] at hg; injection hg with hg; have := HW1.out.size; omega
                  · exact HW1.out.trans (HX.out.2.1.below HW1.out.size (fun b _ h => HW.out.2.1 b h))
                  · show out ++ [key] = late r (l.drop i)
                    have h1 := HM.out
                    simp at h1
                    rw [HS.out, lateStep_yes HK.out h1 (by rw [hol]; exact hmr)]
              · go_wp2
                go_roundg i
                case measure => omega
                case rel =>
                  refine ⟨_, _, _, _, out, by go_num, by first | rfl | go_num, rfl, by omega, hr1, HW.out.2.1, HW1.out, ?_, by omega⟩
                  show out = late r (l.drop i)
                  have h1 := HM.out
                  rw [HS.out, lateStep_no (.inr (by simpa using h1))]
      · have hmr' : r ≤ (m : Int) := by omega
        have HY := Lib.hid hb
        clear hr hA' hb hout hx hg
        go_wp2
        go_ret
        exact ⟨false, rfl, (fun h => by cases h), HY.out⟩
end Go.Proofs.Ytipiohkpdkandaa
