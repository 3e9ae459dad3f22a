/-
  The dictionary against the last unlike keys, plainly. No program in sight. Conditions: none.
-/
import Derived.Test.YtipiohkpdkandaaDictN
namespace Go.Proofs.Ytipiohkpdkandaa
set_option linter.unusedVariables false
set_option linter.unusedSimpArgs false

/-- the others -/
def wo (k : ByteArray) (l : List ByteArray) : List ByteArray := l.filter (fun x => decide (x ≠ k))
theorem mem_wo {k x : ByteArray} {l : List ByteArray} : x ∈ wo k l ↔ x ∈ l ∧ x ≠ k := by simp [wo]
theorem wo_id {k : ByteArray} {l : List ByteArray} (h : k ∉ l) : wo k l = l := by
  unfold wo
  rw [List.filter_eq_self]
  intro x hx
  exact decide_eq_true (fun e => h (e ▸ hx))
theorem wo_len {k : ByteArray} {l : List ByteArray} (h : l.Nodup) : l.length ≤ (wo k l).length + 1 := by
  induction l with
  | nil => simp
  | cons y t ih =>
    obtain ⟨h1, h2⟩ := List.nodup_cons.1 h
    by_cases e : y = k
    · subst e
      have : wo y (y :: t) = wo y t := by simp [wo]
      rw [this, wo_id h1]
      simp
    · have : wo k (y :: t) = y :: wo k t := by simp [wo, e]
      rw [this]
      have := ih h2
      simp; omega
theorem wo_append (k : ByteArray) (l m : List ByteArray) : wo k (l ++ m) = wo k l ++ wo k m := by simp [wo]

theorem late_nodup (n : Int) (l : List ByteArray) : (late n l).Nodup := by
  induction l with
  | nil => exact List.nodup_nil
  | cons k l ih =>
    rw [late_cons]
    unfold lateStep
    split
    · rename_i h
      exact List.nodup_append.2 ⟨ih, by simp, fun a ha b hb => by rw [List.mem_singleton.1 hb]; exact fun e => h.2.1 (e ▸ ha)⟩
    · exact ih
theorem late_le (n : Nat) (l : List ByteArray) : (late n l).length ≤ n := by
  induction l with
  | nil => simp [late]
  | cons k l ih =>
    rw [late_cons]
    unfold lateStep
    split
    · rename_i h
      have := h.2.2
      simp; omega
    · exact ih
theorem late_snoc_no {k : ByteArray} (h : ¬ keyOk k) (n : Int) (l : List ByteArray) : late n (l ++ [k]) = late n l := by
  unfold late
  rw [List.foldr_append]
  congr 1
  exact lateStep_no (.inl h)
theorem late_snoc {k : ByteArray} (h : keyOk k) {n : Nat} (hn : 1 ≤ n) (l : List ByteArray) : late n (l ++ [k]) = (k :: wo k (late n l)).take n := by
  obtain ⟨m, rfl⟩ : ∃ m, n = m + 1 := ⟨n - 1, by omega⟩
  have h0 : late ((m + 1 : Nat) : Int) [k] = [k] := by
    show lateStep _ [] k = [k]
    rw [lateStep_yes h (by simp) (by simp <;> omega)]
    rfl
  induction l with
  | nil =>
    rw [List.nil_append, h0]
    simp [late, wo]
  | cons x l ih =>
    rw [List.cons_append, late_cons, late_cons, ih]
    have hQ := late_nodup ((m + 1 : Nat) : Int) l
    have hQl := late_le (m + 1) l
    generalize late ((m + 1 : Nat) : Int) l = Q at hQ hQl
    have hw := wo_len (k := k) hQ
    by_cases hx : keyOk x
    · by_cases hk : x = k
      · subst hk
        rw [lateStep_no (.inr (by simp))]
        unfold lateStep
        split
        · rw [wo_append]
          simp [wo]
        · rfl
      · by_cases hm : x ∈ Q
        · rw [lateStep_no (n := ((m + 1 : Nat) : Int)) (out := Q) (.inr hm)]
          unfold lateStep
          rw [if_neg]
          rintro ⟨_, h2, h3⟩
          have h4 : (List.take (m + 1) (k :: wo k Q)).length < m + 1 := by omega
          rw [List.length_take] at h4
          rw [List.take_of_length_le (by omega)] at h2
          exact h2 (List.mem_cons_of_mem _ (mem_wo.2 ⟨hm, hk⟩))
        · by_cases hf : Q.length < m + 1
          · rw [lateStep_yes (out := Q) hx hm (by omega), wo_append]
            have e : wo k [x] = [x] := wo_id (by simp; exact fun e => hk e.symm)
            rw [e]
            by_cases hp : (k :: wo k Q).length < m + 1
            · rw [List.take_of_length_le (by omega), lateStep_yes hx (by simp [mem_wo, hm, hk]) (by omega), List.take_of_length_le (by simp at hp ⊢; omega)]
              rfl
            · unfold lateStep
              rw [if_neg (by rintro ⟨_, _, h3⟩; rw [List.length_take] at h3; omega)]
              rw [← List.cons_append, List.take_append_of_le_length (by omega)]
          · have e1 : lateStep ((m + 1 : Nat) : Int) Q x = Q := by
              unfold lateStep
              rw [if_neg (by rintro ⟨_, _, h3⟩; omega)]
            rw [e1]
            unfold lateStep
            rw [if_neg]
            rintro ⟨_, _, h3⟩
            rw [List.length_take] at h3
            simp at h3
            omega
    · rw [lateStep_no (.inl hx), lateStep_no (.inl hx)]

theorem mem_recent {d : DD} (h : DInv d) {x : ByteArray} : x ∈ recent d ↔ x ∈ d.keys := by
  unfold recent
  rw [List.mem_map]
  constructor
  · rintro ⟨s, hs, rfl⟩
    have := h.below s hs
    rw [List.getElem?_eq_getElem this]
    exact List.getElem_mem _
  · intro hx
    obtain ⟨i, hi, rfl⟩ := List.getElem_of_mem hx
    exact ⟨i, h.all i hi, by rw [List.getElem?_eq_getElem hi]; rfl⟩
theorem erase_last {o : List Nat} (h : o.Nodup) {s : Nat} (hs : o[o.length - 1]? = some s) : o.erase s = o.dropLast := by
  have hne : o ≠ [] := by rintro rfl; simp at hs
  obtain ⟨i, x, rfl⟩ : ∃ i x, o = i ++ [x] := ⟨o.dropLast, o.getLast hne, (List.dropLast_concat_getLast hne).symm⟩
  have : x = s := by simpa using hs
  subst this
  have hni : x ∉ i := fun hm => (List.nodup_append.1 h).2.2 x hm x (by simp) rfl
  rw [List.erase_append_right _ hni]
  simp

theorem recent_use {d : DD} (h : DInv d) {k : ByteArray} (hk : keyOk k) : recent (useG d k).1 = (k :: wo k (recent d)).take d.room := by
  have hle := h.le
  have hlo := h.lo
  have hol := h.len
  have hrl := recent_length h
  by_cases hm : k ∈ d.keys
  · rw [useG_had hk hm]
    have hs := posK_get hm
    have hsm := h.mem (posK_lt hm)
    have e : recent (touchF d (posK d.keys k)) = k :: wo k (recent d) := by
      unfold recent touchF front
      rw [List.map_cons]
      congr 1
      · rw [hs]; rfl
      · rw [h.once.erase_eq_filter]
        unfold wo
        rw [List.filter_map]
        congr 1
        refine List.filter_congr fun x hx => ?_
        have hx2 := h.below x hx
        have hget : d.keys[x]? = some d.keys[x] := List.getElem?_eq_getElem hx2
        simp only [Function.comp, hget, Option.getD_some]
        by_cases e : x = posK d.keys k
        · have : d.keys[x] = k := by subst e; exact Option.some.inj (hget.symm.trans hs)
          have e3 : (x != posK d.keys k) = false := by rw [e]; simp
          rw [e3]
          exact (decide_eq_false (fun h => h this)).symm
        · have : d.keys[x] ≠ k := fun e2 => e (posK_of h.nodup (hget.trans (congrArg some e2))).symm
          simp [e, this]
    show recent (touchF d (posK d.keys k)) = _
    rw [e, List.take_of_length_le]
    rw [← e, recent_length (h.touch (posK_lt hm))]
    exact hle
  · have hmr : k ∉ recent d := fun hx => hm ((mem_recent h).1 hx)
    rw [wo_id hmr]
    by_cases hr : d.keys.length < d.room
    · rw [useG_new hk hm hr]
      rw [List.take_of_length_le (by simp; omega)]
      unfold recent
      show List.map _ (d.keys.length :: d.order) = _
      rw [List.map_cons]
      congr 1
      · simp
      · refine List.map_congr_left fun x hx => ?_
        rw [List.getElem?_append_left (h.below x hx)]
    · rw [useG_full hk hm hr]
      have hlast : d.order[d.order.length - 1]? = some (oldest d) := by
        unfold oldest
        rw [List.getElem?_eq_getElem (by omega)]
        rfl
      have hom : oldest d ∈ d.order := List.mem_of_getElem? hlast
      have hol2 := h.below _ hom
      have hd : d.room = (d.order.length - 1) + 1 := by omega
      rw [hd, List.take_succ_cons]
      unfold recent
      show List.map _ (front (oldest d) d.order) = _
      unfold front
      rw [List.map_cons]
      congr 1
      · rw [List.getElem?_set_self hol2]; rfl
      · rw [erase_last h.once hlast, ← List.map_take, ← List.dropLast_eq_take]
        refine List.map_congr_left fun x hx => ?_
        have hxne : oldest d ≠ x := by
          rintro rfl
          have := erase_last h.once hlast
          rw [← this] at hx
          exact h.once.not_mem_erase hx
        rw [List.getElem?_set_ne hxne]

theorem DInv.useG {d : DD} (h : DInv d) (k : ByteArray) : DInv (useG d k).1 := by
  by_cases hk : keyOk k
  · have := (h.use hk).1
    unfold Go.Proofs.Ytipiohkpdkandaa.useG
    rw [if_pos hk]
    exact this
  · rw [useG_no hk]; exact h
theorem useG_room (d : DD) (k : ByteArray) : (useG d k).1.room = d.room := by
  by_cases hk : keyOk k
  · by_cases hm : k ∈ d.keys
    · rw [useG_had hk hm]; rfl
    · by_cases hr : d.keys.length < d.room
      · rw [useG_new hk hm hr]
      · rw [useG_full hk hm hr]
  · rw [useG_no hk]
/-- one use more -/
theorem recent_step {d : DD} (h : DInv d) {l : List ByteArray} (he : recent d = late d.room l) (k : ByteArray) : recent (useG d k).1 = late d.room (l ++ [k]) := by
  by_cases hk : keyOk k
  · rw [recent_use h hk, late_snoc hk h.lo, he]
  · rw [useG_no hk, late_snoc_no hk]; exact he
end Go.Proofs.Ytipiohkpdkandaa
