/-
  What the laws on a dictionary ask of its parts, plainly. No program in sight. Conditions: none.
-/
import Derived.Test.YtipiohkpdkandaaDictQ
namespace Go.Proofs.Ytipiohkpdkandaa
set_option linter.unusedVariables false
set_option linter.unusedSimpArgs false

theorem lookF_of {d : DD} (h : DInv d) {k : ByteArray} {s : Nat} (hs : d.keys[s]? = some k) : lookF d k = s := by
  unfold lookF
  rw [if_pos (List.mem_of_getElem? hs), posK_of h.nodup hs]
theorem lookF_no {d : DD} {k : ByteArray} (hs : k ∉ d.keys) : lookF d k = -1 := by unfold lookF; rw [if_neg hs]
theorem look_recent {d : DD} (h : DInv d) {j : Nat} (hj : j < d.keys.length) : ∃ k s, (recent d)[j]? = some k ∧ d.order[j]? = some s ∧ lookF d k = (s : Int) ∧ k.size ≤ 64 ∧ d.keys[s]? = some k := by
  have hs : d.order[j]? = some (d.order[j]'(by rw [h.len]; exact hj)) := List.getElem?_eq_getElem _
  have hlt := h.below _ (List.mem_of_getElem? hs)
  have hk : d.keys[d.order[j]'(by rw [h.len]; exact hj)]? = some (d.keys[d.order[j]'(by rw [h.len]; exact hj)]'hlt) := List.getElem?_eq_getElem _
  exact ⟨_, _, recent_get hs hk, hs, lookF_of h hk, (h.ok _ (List.mem_of_getElem? hk)).2, hk⟩
theorem order_ne {d : DD} (h : DInv d) {i j s t : Nat} (hi : d.order[i]? = some s) (hj : d.order[j]? = some t) (hne : i ≠ j) : s ≠ t := by
  intro e
  subst e
  obtain ⟨a1, a2⟩ := List.getElem?_eq_some_iff.1 hi
  obtain ⟨b1, b2⟩ := List.getElem?_eq_some_iff.1 hj
  exact hne ((List.getElem_inj h.once).1 (a2.trans b2.symm))
theorem use_cases {d : DD} (h : DInv d) (k : ByteArray) : ∃ (d' : DD) (s : Nat) (hd : Bool) (er was : Int), useG d k = (d', s, hd, er) ∧ lookF d k = was ∧ DInv d' ∧ d'.room = d.room ∧
    ((hd = true ∧ er = 0 ∧ was = s ∧ s < d.room ∧ lookF d' k = s ∧ d'.order[0]? = some s ∧ touchG d s = (d', k, 0)) ∨ (hd = false ∧ er = 0 ∧ was = -1 ∧ s < d.room ∧ lookF d' k = s ∧ d'.order[0]? = some s) ∨ (hd = false ∧ er = 61 ∧ was = -1 ∧ s = 0 ∧ d' = d)) := by
  by_cases hk : keyOk k
  · have hu := h.use hk
    have hi := h.useG k
    have hr := useG_room d k
    by_cases hm : k ∈ d.keys
    · rw [useG_had hk hm] at hi hr
      have hlt := posK_lt hm
      have hle := h.le
      refine ⟨_, _, _, _, _, useG_had hk hm, rfl, hi, hr, .inl ⟨rfl, rfl, lookF_of h (posK_get hm), by omega, lookF_of hi (posK_get hm), rfl, ?_⟩⟩
      rw [touchG, if_pos (by omega)]
      simp [posK_get hm]
    · by_cases hr2 : d.keys.length < d.room
      · rw [useG_new hk hm hr2] at hi hr
        exact ⟨_, _, _, _, _, useG_new hk hm hr2, rfl, hi, hr, .inr (.inl ⟨rfl, rfl, lookF_no hm, hr2, lookF_of hi (by simp), rfl⟩)⟩
      · rw [useG_full hk hm hr2] at hi hr
        have hlo := h.lo
        have hle := h.le
        have hb := h.below _ (oldest_mem h (by omega))
        exact ⟨_, _, _, _, _, useG_full hk hm hr2, rfl, hi, hr, .inr (.inl ⟨rfl, rfl, lookF_no hm, by omega, lookF_of hi (List.getElem?_set_self hb), rfl⟩)⟩
  · exact ⟨_, _, _, _, _, useG_no hk, rfl, h, rfl, .inr (.inr ⟨rfl, rfl, lookF_no (fun hm => hk (h.ok k hm)), rfl, rfl⟩)⟩
theorem strs_take (l : List ByteArray) (m : Nat) : (strs l).take m = strs (l.take m) := by simp [strs, List.map_take]
theorem strs_append (l m : List ByteArray) : strs (l ++ m) = strs l ++ strs m := by simp [strs]
end Go.Proofs.Ytipiohkpdkandaa
