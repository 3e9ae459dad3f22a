/-
  A dictionary, plainly: its keys by slots, its slots by use. No program in sight. Conditions: none.
-/
import Derived.Test.YtipiohkpdkandaaLib
namespace Go.Proofs.Ytipiohkpdkandaa
set_option linter.unusedVariables false
set_option linter.unusedSimpArgs false

/-- a dictionary: how many slots, the keys by their slots, the slots as they were used -/
structure DD where
  room : Nat
  keys : List ByteArray
  order : List Nat

structure DInv (d : DD) : Prop where
  lo : 1 ≤ d.room
  hi : d.room ≤ 64
  len : d.order.length = d.keys.length
  le : d.keys.length ≤ d.room
  nodup : d.keys.Nodup
  ok : ∀ k ∈ d.keys, 1 ≤ k.size ∧ k.size ≤ 64
  once : d.order.Nodup
  below : ∀ s ∈ d.order, s < d.keys.length
  all : ∀ s, s < d.keys.length → s ∈ d.order

theorem DInv.mem {d : DD} (h : DInv d) {s : Nat} (hs : s < d.keys.length) : s ∈ d.order := h.all s hs

def posK (keys : List ByteArray) (k : ByteArray) : Nat := keys.findIdx (fun x => decide (x = k))
theorem posK_lt {keys : List ByteArray} {k : ByteArray} (h : k ∈ keys) : posK keys k < keys.length := List.findIdx_lt_length_of_exists ⟨k, h, by simp⟩
theorem posK_get {keys : List ByteArray} {k : ByteArray} (h : k ∈ keys) : keys[posK keys k]? = some k := by
  have hl := posK_lt h
  rw [List.getElem?_eq_getElem hl]
  have := List.findIdx_getElem (p := fun x => decide (x = k)) (xs := keys) (w := hl)
  exact congrArg some (of_decide_eq_true this)
theorem posK_of {keys : List ByteArray} (hn : keys.Nodup) {k : ByteArray} {i : Nat} (h : keys[i]? = some k) : posK keys k = i := by
  have hm := List.mem_of_getElem? h
  have h1 := posK_get hm
  obtain ⟨a1, a2⟩ := List.getElem?_eq_some_iff.1 h
  obtain ⟨b1, b2⟩ := List.getElem?_eq_some_iff.1 h1
  exact (List.getElem_inj hn).1 (b2.trans a2.symm)

def front (s : Nat) (o : List Nat) : List Nat := s :: o.erase s
theorem front_length {s : Nat} {o : List Nat} (h : s ∈ o) : (front s o).length = o.length := by
  have := List.length_pos_of_mem h
  simp [front, List.length_erase_of_mem h]; omega
theorem front_mem {s x : Nat} {o : List Nat} (h : s ∈ o) : x ∈ front s o ↔ x ∈ o := by
  unfold front
  rw [List.mem_cons]
  constructor
  · rintro (rfl | hx)
    · exact h
    · exact List.mem_of_mem_erase hx
  · intro hx
    by_cases e : x = s
    · exact .inl e
    · exact .inr ((List.mem_erase_of_ne e).2 hx)
theorem front_nodup {s : Nat} {o : List Nat} (h : o.Nodup) : (front s o).Nodup := List.nodup_cons.2 ⟨h.not_mem_erase, h.erase s⟩
theorem front_eq {s p : Nat} {o : List Nat} (h : s ∈ o) (hp : o.idxOf s = p) : front s o = s :: o.eraseIdx p := by
  unfold front
  rw [List.erase_eq_eraseIdx_of_idxOf hp]

def touchF (d : DD) (s : Nat) : DD := { d with order := front s d.order }
theorem DInv.touch {d : DD} (h : DInv d) {s : Nat} (hs : s < d.keys.length) : DInv (touchF d s) :=
  ⟨h.lo, h.hi, (front_length (h.mem hs)).trans h.len, h.le, h.nodup, h.ok, front_nodup h.once, fun x hx => h.below x ((front_mem (h.mem hs)).1 hx), fun x hx => (front_mem (h.mem hs)).2 (h.all x hx)⟩

def keyOk (k : ByteArray) : Prop := 1 ≤ k.size ∧ k.size ≤ 64
instance (k : ByteArray) : Decidable (keyOk k) := by unfold keyOk; exact inferInstance
/-- the slot used longest ago -/
def oldest (d : DD) : Nat := d.order[d.order.length - 1]?.getD 0
open Classical in
/-- a key that may be is used: the dictionary then, its slot, had it one? -/
noncomputable def useF (d : DD) (k : ByteArray) : DD × Nat × Bool :=
  if k ∈ d.keys then (touchF d (posK d.keys k), posK d.keys k, true)
  else if d.keys.length < d.room then (⟨d.room, d.keys ++ [k], d.keys.length :: d.order⟩, d.keys.length, false)
  else (⟨d.room, d.keys.set (oldest d) k, front (oldest d) d.order⟩, oldest d, false)

theorem oldest_mem {d : DD} (h : DInv d) (hne : 1 ≤ d.keys.length) : oldest d ∈ d.order := by
  have hl := h.len
  unfold oldest
  rw [List.getElem?_eq_getElem (by omega)]
  exact List.getElem_mem _
theorem nodup_set {l : List ByteArray} (h : l.Nodup) {k : ByteArray} (hk : k ∉ l) (s : Nat) : (l.set s k).Nodup := by
  refine List.pairwise_iff_getElem.2 fun i j hi hj hij => ?_
  simp only [List.length_set] at hi hj
  rw [List.getElem_set, List.getElem_set]
  split <;> split
  · omega
  · exact fun e => hk (e ▸ List.getElem_mem _)
  · exact fun e => hk (e ▸ List.getElem_mem _)
  · exact List.pairwise_iff_getElem.1 h i j hi hj hij
theorem DInv.use {d : DD} (h : DInv d) {k : ByteArray} (hk : keyOk k) : DInv (useF d k).1 ∧ (useF d k).2.1 < (useF d k).1.keys.length ∧ (useF d k).1.keys[(useF d k).2.1]? = some k := by
  unfold useF
  by_cases h1 : k ∈ d.keys
  · rw [if_pos h1]
    exact ⟨h.touch (posK_lt h1), posK_lt h1, posK_get h1⟩
  · rw [if_neg h1]
    by_cases h2 : d.keys.length < d.room
    · rw [if_pos h2]
      refine ⟨⟨h.lo, h.hi, ?_, ?_, ?_, ?_, ?_, ?_, ?_⟩, ?_, ?_⟩
      · simp [h.len]
      · simp; omega
      · exact List.nodup_append.2 ⟨h.nodup, by simp, fun a ha b hb => by rw [List.mem_singleton.1 hb]; exact fun e => h1 (e ▸ ha)⟩
      · intro x hx
        rcases List.mem_append.1 hx with hx | hx
        · exact h.ok x hx
        · rw [List.mem_singleton.1 hx]; exact hk
      · exact List.nodup_cons.2 ⟨fun hm => by have := h.below _ hm; omega, h.once⟩
      · intro s hs
        rcases List.mem_cons.1 hs with rfl | hs
        · simp
        · have := h.below s hs; simp; omega
      · intro s hs
        simp at hs
        by_cases e : s = d.keys.length
        · exact List.mem_cons.2 (.inl e)
        · exact List.mem_cons_of_mem _ (h.all s (by omega))
      · simp
      · simp
    · rw [if_neg h2]
      have hle := h.le
      have hlo := h.lo
      have hm := oldest_mem h (by omega)
      have hlt := h.below _ hm
      refine ⟨⟨h.lo, h.hi, ?_, ?_, ?_, ?_, ?_, ?_, ?_⟩, ?_, ?_⟩
      · simp [front_length hm, h.len]
      · simpa using h.le
      · exact nodup_set h.nodup h1 _
      · intro x hx
        rcases List.mem_or_eq_of_mem_set hx with hx | rfl
        · exact h.ok x hx
        · exact hk
      · exact front_nodup h.once
      · intro s hs
        have := h.below s ((front_mem hm).1 hs)
        simpa using this
      · intro s hs
        exact (front_mem hm).2 (h.all s (by simpa using hs))
      · simpa using hlt
      · exact List.getElem?_set_self hlt

/-- A key more, its slot the last in the order. -/
theorem DInv.grow {d : DD} (h : DInv d) {k : ByteArray} (hk : keyOk k) (hm : k ∉ d.keys) (hroom : d.keys.length < d.room) : DInv ⟨d.room, d.keys ++ [k], d.order ++ [d.keys.length]⟩ := by
  refine ⟨h.lo, h.hi, ?_, ?_, ?_, ?_, ?_, ?_, ?_⟩
  · simp [h.len]
  · simp; omega
  · exact List.nodup_append.2 ⟨h.nodup, by simp, fun a ha b hb => by rw [List.mem_singleton.1 hb]; exact fun e => hm (e ▸ ha)⟩
  · intro x hx
    rcases List.mem_append.1 hx with hx | hx
    · exact h.ok x hx
    · rw [List.mem_singleton.1 hx]; exact hk
  · exact List.nodup_append.2 ⟨h.once, by simp, fun a ha b hb => by rw [List.mem_singleton.1 hb]; have := h.below a ha; omega⟩
  · intro s hs
    rcases List.mem_append.1 hs with hs | hs
    · have := h.below s hs; simp; omega
    · rw [List.mem_singleton.1 hs]; simp
  · intro s hs
    simp at hs
    by_cases e : s = d.keys.length
    · exact List.mem_append_right _ (by simp [e])
    · exact List.mem_append_left _ (h.all s (by omega))
theorem front_snoc {o : List Nat} {n : Nat} (h : n ∉ o) : front n (o ++ [n]) = n :: o := by
  unfold front
  rw [List.erase_append_right _ h]
  simp
/-- A key in another one's place. -/
theorem DInv.swap {d : DD} (h : DInv d) {k : ByteArray} (hk : keyOk k) (hm : k ∉ d.keys) (s : Nat) : DInv ⟨d.room, d.keys.set s k, d.order⟩ := by
  refine ⟨h.lo, h.hi, by simp [h.len], by simpa using h.le, nodup_set h.nodup hm s, ?_, h.once, fun x hx => by simpa using h.below x hx, fun x hx => h.all x (by simpa using hx)⟩
  intro x hx
  rcases List.mem_or_eq_of_mem_set hx with hx | rfl
  · exact h.ok x hx
  · exact hk
theorem get_snoc {keys : List ByteArray} {k k' : ByteArray} {v : Nat} (hk : k ∉ keys) : (keys ++ [k])[v]? = some k' ↔ keys[v]? = some k' ∨ (k' = k ∧ v = keys.length) := by
  by_cases h : v < keys.length
  · rw [List.getElem?_append_left h]
    constructor
    · exact .inl
    · rintro (h1 | ⟨_, h2⟩)
      · exact h1
      · omega
  · rw [List.getElem?_append_right (by omega)]
    constructor
    · intro h1
      have h2 := (List.getElem?_eq_some_iff.1 h1).1
      simp at h2
      obtain rfl : v = keys.length := by omega
      simp at h1
      exact .inr ⟨h1.symm, rfl⟩
    · rintro (h1 | ⟨rfl, rfl⟩)
      · exact absurd (List.getElem?_eq_some_iff.1 h1).1 h
      · simp
theorem get_set {keys : List ByteArray} (hn : keys.Nodup) {k k' old : ByteArray} {v s : Nat} (ho : keys[s]? = some old) : (keys.set s k)[v]? = some k' ↔ (keys[v]? = some k' ∧ k' ≠ old) ∨ (k' = k ∧ v = s) := by
  have hs := (List.getElem?_eq_some_iff.1 ho).1
  by_cases h : v = s
  · subst h
    rw [List.getElem?_set_self hs]
    constructor
    · intro h; exact .inr ⟨(Option.some.inj h).symm, rfl⟩
    · rintro (⟨h1, h2⟩ | ⟨rfl, _⟩)
      · exact absurd (Option.some.inj (h1.symm.trans ho)) h2
      · rfl
  · rw [List.getElem?_set_ne (fun e => h e.symm)]
    constructor
    · intro h1
      refine .inl ⟨h1, fun e => h ?_⟩
      subst e
      exact (posK_of hn h1).symm.trans (posK_of hn ho)
    · rintro (⟨h1, _⟩ | ⟨_, h2⟩)
      · exact h1
      · exact absurd h2 h
end Go.Proofs.Ytipiohkpdkandaa
