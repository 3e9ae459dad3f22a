/-
  The reference's dictionary, plainly: slots with their keys and when each was used. No program in sight. Conditions: none.
-/
import Derived.Test.YtipiohkpdkandaaDictR
namespace Go.Proofs.Ytipiohkpdkandaa
set_option linter.unusedVariables false
set_option linter.unusedSimpArgs false

def upd {α : Type} (f : Nat → α) (s : Nat) (x : α) : Nat → α := fun i => if i = s then x else f i
theorem upd_self {α : Type} (f : Nat → α) (s : Nat) (x : α) : upd f s x s = x := by simp [upd]
theorem upd_ne {α : Type} (f : Nat → α) {s t : Nat} (x : α) (h : t ≠ s) : upd f s x t = f t := by simp [upd, h]

/-- slots as cells -/
def pairs (f : Nat → ByteArray) (us : Nat → Int) (n : Nat) : List Value := (List.range (n * 2)).map fun j => if j % 2 = 0 then .string (f (j / 2)) else .int .i64 (us (j / 2))
theorem pairs_length (f : Nat → ByteArray) (us : Nat → Int) (n : Nat) : (pairs f us n).length = n * 2 := by simp [pairs]
theorem pairs_at (f : Nat → ByteArray) (us : Nat → Int) (n j : Nat) : (pairs f us n)[j]? = if j < n * 2 then some (if j % 2 = 0 then .string (f (j / 2)) else .int .i64 (us (j / 2))) else none := by
  unfold pairs
  rw [List.getElem?_map]
  by_cases h : j < n * 2
  · rw [List.getElem?_range h, if_pos h]; rfl
  · rw [if_neg h, List.getElem?_eq_none (by simpa using h)]; rfl
theorem pairs_key (f : Nat → ByteArray) (us : Nat → Int) {n i : Nat} (h : i < n) : (pairs f us n)[i * 2]? = some (.string (f i)) := by
  rw [pairs_at, if_pos (by omega), if_pos (by omega), show i * 2 / 2 = i by omega]
theorem pairs_used (f : Nat → ByteArray) (us : Nat → Int) {n i : Nat} (h : i < n) : (pairs f us n)[i * 2 + 1]? = some (.int .i64 (us i)) := by
  rw [pairs_at, if_pos (by omega), if_neg (by omega), show (i * 2 + 1) / 2 = i by omega]
theorem pairs_set_used (f : Nat → ByteArray) (us : Nat → Int) {n i : Nat} (h : i < n) (x : Int) : (pairs f us n).set (i * 2 + 1) (.int .i64 x) = pairs f (upd us i x) n := by
  apply List.ext_getElem?
  intro j
  rw [List.getElem?_set, pairs_at, pairs_at, pairs_length]
  by_cases hj : i * 2 + 1 = j
  · subst hj
    rw [if_pos rfl, if_pos (by omega), if_pos (by omega), if_neg (by omega), show (i * 2 + 1) / 2 = i by omega, upd_self]
  · rw [if_neg hj]
    by_cases hn : j < n * 2
    · rw [if_pos hn, if_pos hn]
      by_cases hm : j % 2 = 0
      · rw [if_pos hm, if_pos hm]
      · rw [if_neg hm, if_neg hm, upd_ne _ _ (by omega)]
    · rw [if_neg hn, if_neg hn]
theorem pairs_set_key (f : Nat → ByteArray) (us : Nat → Int) {n i : Nat} (h : i < n) (k : ByteArray) : (pairs f us n).set (i * 2) (.string k) = pairs (upd f i k) us n := by
  apply List.ext_getElem?
  intro j
  rw [List.getElem?_set, pairs_at, pairs_at, pairs_length]
  by_cases hj : i * 2 = j
  · subst hj
    rw [if_pos rfl, if_pos (by omega), if_pos (by omega), if_pos (by omega), show i * 2 / 2 = i by omega, upd_self]
  · rw [if_neg hj]
    by_cases hn : j < n * 2
    · rw [if_pos hn, if_pos hn]
      by_cases hm : j % 2 = 0
      · rw [if_pos hm, if_pos hm, upd_ne _ _ (by omega)]
      · rw [if_neg hm, if_neg hm]
    · rw [if_neg hn, if_neg hn]
theorem pairs_congr {f g : Nat → ByteArray} {us vs : Nat → Int} {n : Nat} (h1 : ∀ i, i < n → f i = g i) (h2 : ∀ i, i < n → us i = vs i) : pairs f us n = pairs g vs n := by
  apply List.ext_getElem?
  intro j
  rw [pairs_at, pairs_at]
  by_cases hn : j < n * 2
  · rw [if_pos hn, if_pos hn, h1 _ (by omega), h2 _ (by omega)]
  · rw [if_neg hn, if_neg hn]
theorem pairs_oneCell (f : Nat → ByteArray) (us : Nat → Int) (n : Nat) : ∀ u ∈ pairs f us n, u.oneCell' = true := by
  intro u hu
  obtain ⟨j, _, rfl⟩ := List.mem_map.1 hu
  split <;> rfl

/-- a slot's key; none: the empty one -/
def keyAt (d : DD) (i : Nat) : ByteArray := d.keys[i]?.getD ByteArray.empty
theorem keyAt_some {d : DD} {i : Nat} {k : ByteArray} (h : d.keys[i]? = some k) : keyAt d i = k := by simp [keyAt, h]
theorem keyAt_none {d : DD} {i : Nat} (h : d.keys.length ≤ i) : keyAt d i = ByteArray.empty := by simp [keyAt, List.getElem?_eq_none h]
theorem keyAt_ok {d : DD} (h : DInv d) {i : Nat} (hi : i < d.keys.length) : keyOk (keyAt d i) := by
  have : d.keys[i]? = some d.keys[i] := List.getElem?_eq_getElem hi
  rw [keyAt_some this]
  exact h.ok _ (List.getElem_mem _)
theorem size_pos_ne {k : ByteArray} (h : 1 ≤ k.size) : k ≠ ByteArray.empty := by
  intro e
  rw [e] at h
  exact absurd h (by decide)

/-- the slots stand in the order of their use -/
structure RInv (d : DD) (us : Nat → Int) (now : Int) : Prop where
  inv : DInv d
  n0 : 0 ≤ now
  le : ∀ s ∈ d.order, us s ≤ now
  dec : d.order.Pairwise (fun s t => us t < us s)
theorem RInv.new {r : Nat} (h1 : 1 ≤ r) (h2 : r ≤ 64) (us : Nat → Int) : RInv ⟨r, [], []⟩ us 0 := ⟨DInv.new h1 h2, by simp, by simp, by simp⟩
theorem RInv.step {d d' : DD} {us : Nat → Int} {now : Int} (h : RInv d us now) (hd : DInv d') {s : Nat} {o : List Nat} (e : d'.order = s :: o) (ho : o.Sublist d.order) (hs : s ∉ o) : RInv d' (upd us s (now + 1)) (now + 1) := by
  have ne : ∀ t, t ∈ o → t ≠ s := fun t ht e => hs (by rw [← e]; exact ht)
  refine ⟨hd, by have := h.n0; omega, ?_, ?_⟩
  · intro t ht
    rw [e] at ht
    rcases List.mem_cons.1 ht with rfl | ht
    · rw [upd_self]; exact Int.le_refl _
    · rw [upd_ne us _ (ne t ht)]
      have := h.le t (ho.subset ht)
      omega
  · rw [e]
    refine List.pairwise_cons.2 ⟨fun t ht => ?_, ?_⟩
    · rw [upd_self, upd_ne us _ (ne t ht)]
      have := h.le t (ho.subset ht)
      omega
    · refine (h.dec.sublist ho).imp_of_mem ?_
      intro a b ha hb hab
      rw [upd_ne us _ (ne a ha), upd_ne us _ (ne b hb)]
      exact hab
theorem RInv.touch {d : DD} {us : Nat → Int} {now : Int} (h : RInv d us now) {s : Nat} (hs : s < d.keys.length) : RInv (touchF d s) (upd us s (now + 1)) (now + 1) :=
  h.step (h.inv.touch hs) (s := s) (o := d.order.erase s) rfl List.erase_sublist (h.inv.once.not_mem_erase)
/-- the slot that a key is given -/
noncomputable def slotU (d : DD) (k : ByteArray) : Nat := (useF d k).2.1
theorem RInv.use {d : DD} {us : Nat → Int} {now : Int} (h : RInv d us now) {k : ByteArray} (hk : keyOk k) : RInv (useF d k).1 (upd us (slotU d k) (now + 1)) (now + 1) := by
  have hd := (h.inv.use hk).1
  unfold slotU
  unfold useF at hd ⊢
  by_cases h1 : k ∈ d.keys
  · rw [if_pos h1]
    exact h.touch (posK_lt h1)
  · rw [if_neg h1] at hd ⊢
    by_cases h2 : d.keys.length < d.room
    · rw [if_pos h2] at hd ⊢
      exact h.step hd (s := d.keys.length) (o := d.order) rfl (List.Sublist.refl _) (fun hm => by have := h.inv.below _ hm; omega)
    · rw [if_neg h2] at hd ⊢
      exact h.step hd (s := oldest d) (o := d.order.erase (oldest d)) rfl List.erase_sublist (h.inv.once.not_mem_erase)
/-- .. and its keys are the old ones but there. -/
theorem keyAt_use {d : DD} (h : DInv d) {k : ByteArray} (hk : keyOk k) : slotU d k < d.room ∧ (useF d k).1.room = d.room ∧ ∀ i, keyAt (useF d k).1 i = upd (keyAt d) (slotU d k) k i := by
  have hlo := h.lo
  have hle := h.le
  unfold slotU useF
  by_cases h1 : k ∈ d.keys
  · have hp := posK_lt h1
    rw [if_pos h1]
    refine ⟨by show posK d.keys k < d.room; omega, rfl, fun i => ?_⟩
    by_cases e : i = posK d.keys k
    · subst e
      rw [upd_self]
      exact keyAt_some (d := touchF d _) (posK_get h1)
    · rw [upd_ne _ _ e]; rfl
  · rw [if_neg h1]
    by_cases h2 : d.keys.length < d.room
    · rw [if_pos h2]
      refine ⟨h2, rfl, fun i => ?_⟩
      show (d.keys ++ [k])[i]?.getD ByteArray.empty = upd (keyAt d) d.keys.length k i
      by_cases e : i = d.keys.length
      · subst e
        rw [upd_self]
        simp
      · rw [upd_ne _ _ e]
        by_cases hlt : i < d.keys.length
        · rw [List.getElem?_append_left hlt]; rfl
        · rw [keyAt_none (by omega), List.getElem?_eq_none (by simp; omega)]; rfl
    · rw [if_neg h2]
      have hm := oldest_mem h (by omega)
      have hlt := h.below _ hm
      refine ⟨by show oldest d < d.room; omega, rfl, fun i => ?_⟩
      show (d.keys.set (oldest d) k)[i]?.getD ByteArray.empty = upd (keyAt d) (oldest d) k i
      by_cases e : i = oldest d
      · subst e
        rw [upd_self, List.getElem?_set_self hlt]; rfl
      · rw [upd_ne _ _ e, List.getElem?_set_ne (fun h => e h.symm)]; rfl
/-- The slot used longest ago is the one whose use is the least. -/
theorem RInv.oldest {d : DD} {us : Nat → Int} {now : Int} (h : RInv d us now) (hf : ¬ d.keys.length < d.room) {b : Nat} (hb : b < d.room) (hmin : ∀ t, t < d.room → us b ≤ us t) : b = Proofs.Ytipiohkpdkandaa.oldest d := by
  have hle := h.inv.le
  have hlo := h.inv.lo
  have hbo := h.inv.all b (by omega)
  have hol := h.inv.len
  obtain ⟨i, hi, hib⟩ := List.mem_iff_getElem.1 hbo
  have hlast : d.order[d.order.length - 1]? = some (d.order[d.order.length - 1]'(by omega)) := List.getElem?_eq_getElem _
  unfold Proofs.Ytipiohkpdkandaa.oldest
  rw [hlast]
  show b = d.order[d.order.length - 1]'(by omega)
  by_cases e : i = d.order.length - 1
  · subst e; exact hib.symm
  · exfalso
    have hlt := List.pairwise_iff_getElem.1 h.dec i (d.order.length - 1) hi (by omega) (by omega)
    rw [hib] at hlt
    have hbl := h.inv.below _ (List.getElem_mem (l := d.order) (n := d.order.length - 1) (by omega))
    have := hmin (d.order[d.order.length - 1]'(by omega)) (by omega)
    omega
/-- What an unused dictionary gives: the first slot without a key, or the one used longest ago. -/
noncomputable def freeF (d : DD) : Nat := if d.keys.length < d.room then d.keys.length else oldest d
theorem freeF_use {d : DD} {k : ByteArray} (hm : k ∉ d.keys) : slotU d k = freeF d ∧ (useF d k).2.2 = false := by
  unfold slotU useF freeF
  rw [if_neg hm]
  by_cases h2 : d.keys.length < d.room
  · rw [if_pos h2, if_pos h2]; exact ⟨rfl, rfl⟩
  · rw [if_neg h2, if_neg h2]; exact ⟨rfl, rfl⟩

/-! ### The keys, the latest first -/
/-- a slot that was used before -/
def Val (d : DD) (us : Nat → Int) (before : Int) (s : Nat) : Prop := s < d.keys.length ∧ us s < before
/-- what the search has found among the first i slots -/
def Best (d : DD) (us : Nat → Int) (before : Int) (i : Nat) (b : Int) : Prop :=
  (b = -1 ∧ ∀ t, t < i → ¬ Val d us before t) ∨ ∃ s : Nat, b = s ∧ s < i ∧ Val d us before s ∧ ∀ t, t < i → Val d us before t → us t ≤ us s
theorem Best.no {d : DD} {us : Nat → Int} {before : Int} {i : Nat} {b : Int} (h : Best d us before i b) (hv : ¬ Val d us before i) : Best d us before (i + 1) b := by
  rcases h with ⟨rfl, h⟩ | ⟨s, rfl, hs, h1, h2⟩
  · refine .inl ⟨rfl, fun t ht => ?_⟩
    by_cases e : t = i
    · rw [e]; exact hv
    · exact h t (by omega)
  · refine .inr ⟨s, rfl, by omega, h1, fun t ht htv => ?_⟩
    by_cases e : t = i
    · exact absurd (e ▸ htv) hv
    · exact h2 t (by omega) htv
theorem Best.first {d : DD} {us : Nat → Int} {before : Int} {i : Nat} (h : Best d us before i (-1)) (hv : Val d us before i) : Best d us before (i + 1) i := by
  rcases h with ⟨_, h⟩ | ⟨s, hs, _⟩
  · refine .inr ⟨i, rfl, by omega, hv, fun t ht htv => ?_⟩
    by_cases e : t = i
    · rw [e]; exact Int.le_refl _
    · exact absurd htv (h t (by omega))
  · omega
theorem Best.more {d : DD} {us : Nat → Int} {before : Int} {i s : Nat} (h : Best d us before i s) (hv : Val d us before i) (hl : us s < us i) : Best d us before (i + 1) i := by
  rcases h with ⟨hs, h⟩ | ⟨s', hs, h0, h1, h2⟩
  · omega
  · obtain rfl : s' = s := by omega
    refine .inr ⟨i, rfl, by omega, hv, fun t ht htv => ?_⟩
    by_cases e : t = i
    · rw [e]; exact Int.le_refl _
    · have := h2 t (by omega) htv; omega
theorem Best.less {d : DD} {us : Nat → Int} {before : Int} {i s : Nat} (h : Best d us before i s) (hl : us i ≤ us s) : Best d us before (i + 1) s := by
  rcases h with ⟨hs, h⟩ | ⟨s', hs, h0, h1, h2⟩
  · omega
  · obtain rfl : s' = s := by omega
    refine .inr ⟨s', rfl, by omega, h1, fun t ht htv => ?_⟩
    by_cases e : t = i
    · rw [e]; exact hl
    · exact h2 t (by omega) htv
/-- before the j-th latest -/
def befF (d : DD) (us : Nat → Int) (now : Int) (j : Nat) : Int := match j with
  | 0 => now + 1
  | j + 1 => us (d.order[j]?.getD 0)
theorem befF_val {d : DD} {us : Nat → Int} {now : Int} (h : RInv d us now) {j m s : Nat} (hj : j ≤ d.order.length) (hs : d.order[m]? = some s) : us s < befF d us now j ↔ j ≤ m := by
  have hm := (List.getElem?_eq_some_iff.1 hs).1
  have hms := (List.getElem?_eq_some_iff.1 hs).2
  cases j with
  | zero =>
    have := h.le s (List.mem_of_getElem? hs)
    show us s < now + 1 ↔ _
    exact ⟨fun _ => Nat.zero_le _, fun _ => by omega⟩
  | succ j =>
    show us s < us (d.order[j]?.getD 0) ↔ _
    rw [List.getElem?_eq_getElem (by omega : j < d.order.length)]
    show us s < us (d.order[j]'(by omega)) ↔ _
    rcases Nat.lt_trichotomy j m with hlt | rfl | hlt
    · have := List.pairwise_iff_getElem.1 h.dec j m (by omega) hm hlt
      rw [hms] at this
      exact ⟨fun _ => hlt, fun _ => this⟩
    · rw [hms]
      exact ⟨fun h => by omega, fun h => by omega⟩
    · have := List.pairwise_iff_getElem.1 h.dec m j hm (by omega) hlt
      rw [hms] at this
      exact ⟨fun h => by omega, fun h => by omega⟩
/-- What the search finds. -/
theorem best_end {d : DD} {us : Nat → Int} {now : Int} (h : RInv d us now) {j : Nat} (hj : j ≤ d.order.length) {b : Int} (hb : Best d us (befF d us now j) d.room b) :
    (j = d.order.length ∧ b = -1) ∨ ∃ s : Nat, j < d.order.length ∧ b = s ∧ d.order[j]? = some s ∧ s < d.keys.length := by
  have hle := h.inv.le
  have hol := h.inv.len
  by_cases e : j = d.order.length
  · left
    refine ⟨e, ?_⟩
    rcases hb with ⟨hb, _⟩ | ⟨s, hs, h0, ⟨h1, h1'⟩, h2⟩
    · exact hb
    · exfalso
      obtain ⟨m, hm, hms⟩ := List.mem_iff_getElem.1 (h.inv.all s h1)
      have := (befF_val h hj (m := m) (s := s) (by rw [List.getElem?_eq_getElem hm, hms])).1 h1'
      omega
  · right
    have hjl : j < d.order.length := by omega
    have hg : d.order[j]? = some (d.order[j]) := List.getElem?_eq_getElem hjl
    have hbl := h.inv.below _ (List.getElem_mem hjl)
    have hv : Val d us (befF d us now j) (d.order[j]) := ⟨hbl, (befF_val h hj hg).2 (Nat.le_refl _)⟩
    rcases hb with ⟨rfl, hb⟩ | ⟨s, rfl, h0, ⟨h1, h1'⟩, h2⟩
    · exact absurd hv (hb _ (by omega))
    · refine ⟨s, hjl, rfl, ?_, h1⟩
      obtain ⟨m, hm, hms⟩ := List.mem_iff_getElem.1 (h.inv.all s h1)
      have hmj := (befF_val h hj (m := m) (s := s) (by rw [List.getElem?_eq_getElem hm, hms])).1 h1'
      by_cases e2 : m = j
      · subst e2; rw [hg, hms]
      · exfalso
        have hlt := List.pairwise_iff_getElem.1 h.dec j m hjl hm (by omega)
        rw [hms] at hlt
        have := h2 _ (by omega) hv
        omega
theorem befF_succ {d : DD} {us : Nat → Int} {now : Int} {j s : Nat} (h : d.order[j]? = some s) : befF d us now (j + 1) = us s := by
  show us (d.order[j]?.getD 0) = us s
  rw [h]
  rfl
end Go.Proofs.Ytipiohkpdkandaa
