/-
  Records that are all so much later, plainly. No program in sight. Conditions: none.
-/
import Derived.Test.YtipiohkpdkandaaRecWr
namespace Go.Proofs.Ytipiohkpdkandaa
set_option linter.unusedVariables false
set_option linter.unusedSimpArgs false

theorem digs_mono : ∀ (k n m : Nat), m ≤ k → n ≤ m → (digs n).length ≤ (digs m).length := by
  intro k
  induction k with
  | zero =>
    intro n m hm hn
    have e : n = m := by omega
    rw [e]
    exact Nat.le_refl _
  | succ k ih =>
    intro n m hm hn
    by_cases h1 : n < 128
    · rw [digs_lo h1]
      by_cases h2 : m < 128
      · rw [digs_lo h2]; simp
      · rw [digs_hi h2]; simp
    · rw [digs_hi h1, digs_hi (by omega : ¬ m < 128)]
      have := ih (n / 128) (m / 128) (by omega) (Nat.div_le_div_right hn)
      simp only [List.length_cons]; omega
/-- a record so much later -/
def Rec.shift (t : Int) (r : Rec) : Rec := ⟨r.tick + t, r.key, r.cost, r.verdict⟩
theorem shift_ok {r : Rec} {t : Int} (h : r.ok) (h0 : 0 ≤ t) (h1 : r.tick + t ≤ 1099511627776) : (r.shift t).ok :=
  ⟨by have := h.t0; show 0 ≤ r.tick + t; omega, h1, h.key, h.c0, h.c1, h.v0, h.v1⟩
theorem putB_shift (c : CC) (r : Rec) (t : Int) : putB ⟨c.d, c.tick + t, c.cost⟩ (r.shift t) = putB c r := by
  have e : firstN ⟨c.d, c.tick + t, c.cost⟩ (r.shift t) = firstN c r := by
    unfold firstN
    show (4 * (r.tick + t - (c.tick + t)) + r.verdict).toNat = _
    rw [show r.tick + t - (c.tick + t) = r.tick - c.tick by omega]
  unfold putB
  rw [e]
  rfl
theorem rowsB_shift (t : Int) (rs : List Rec) : ∀ c : CC, rowsB ⟨c.d, c.tick + t, c.cost⟩ (rs.map (Rec.shift t)) = rowsB c rs := by
  induction rs with
  | nil => intro c; rfl
  | cons r rs ih =>
    intro c
    show putB _ _ :: rowsB (putC _ _) (rs.map (Rec.shift t)) = _
    rw [putB_shift]
    exact congrArg _ (ih (putC c r))
theorem okAll_shift (t : Int) (h0 : 0 ≤ t) (rs : List Rec) : ∀ (c : CC) (x : Int), x ≤ c.tick + t → okAll c rs → (∀ r ∈ rs, r.tick + t ≤ 1099511627776) → okAll ⟨c.d, x, c.cost⟩ (rs.map (Rec.shift t)) := by
  induction rs with
  | nil => intro c x _ _ _; trivial
  | cons r rs ih =>
    intro c x hx h hr
    refine ⟨shift_ok h.1 h0 (hr r List.mem_cons_self), ?_, ?_⟩
    · have := h.2.1; show x ≤ r.tick + t; omega
    · exact ih (putC c r) (r.tick + t) (Int.le_refl _) h.2.2 (fun s hs => hr s (List.mem_cons_of_mem _ hs))
theorem okAll_tick (rs : List Rec) : ∀ c : CC, okAll c rs → ∀ r ∈ rs, c.tick ≤ r.tick := by
  induction rs with
  | nil => intro c _ r h; simp at h
  | cons x rs ih =>
    intro c h r hr
    rcases List.mem_cons.1 hr with rfl | hr
    · exact h.2.1
    · have h1 := ih (putC c x) h.2.2 r hr
      have h2 := h.2.1
      have h3 : (putC c x).tick = x.tick := rfl
      omega
/-- No record is later than the last one. -/
theorem okAll_last (rs : List Rec) : ∀ (c : CC) (z : Rec), okAll c rs → rs[rs.length - 1]? = some z → ∀ r ∈ rs, r.tick ≤ z.tick := by
  induction rs with
  | nil => intro c z _ _ r h; simp at h
  | cons x rs ih =>
    intro c z h hz r hr
    cases rs with
    | nil =>
      simp at hz
      subst hz
      rw [List.mem_singleton.1 hr]
      exact Int.le_refl _
    | cons y rs =>
      have hz' : (y :: rs)[(y :: rs).length - 1]? = some z := by
        rw [show (x :: y :: rs).length - 1 = (y :: rs).length - 1 + 1 by simp] at hz
        simpa using hz
      rcases List.mem_cons.1 hr with rfl | hr
      · exact okAll_tick _ _ h.2.2 z (List.mem_of_getElem? hz')
      · exact ih (putC c x) z h.2.2 hz' r hr
/-- All but the first one's bytes are the same. -/
theorem later_rows {c : CC} (hc : CInv c) (t : Int) (h0 : 0 ≤ t) (rs : List Rec) (h : okAll c rs) (hr : ∀ r ∈ rs, r.tick + t ≤ 1099511627776) :
    okAll c (rs.map (Rec.shift t)) ∧ (∀ i b, 1 ≤ i → (rowsB c rs)[i]? = some b → (rowsB c (rs.map (Rec.shift t)))[i]? = some b) ∧
    (∀ a b, (rowsB c rs)[0]? = some a → (rowsB c (rs.map (Rec.shift t)))[0]? = some b → a.length ≤ b.length) := by
  refine ⟨okAll_shift t h0 rs c c.tick (by omega) h hr, ?_, ?_⟩
  · intro i b hi hb
    cases rs with
    | nil => simp [rowsB] at hb
    | cons r rs =>
      obtain ⟨i, rfl⟩ : ∃ k, i = k + 1 := ⟨i - 1, by omega⟩
      show (putB c (r.shift t) :: rowsB (putC c (r.shift t)) (rs.map (Rec.shift t)))[i + 1]? = some b
      rw [List.getElem?_cons_succ]
      have e := rowsB_shift t rs (putC c r)
      have e2 : putC c (r.shift t) = ⟨(putC c r).d, (putC c r).tick + t, (putC c r).cost⟩ := rfl
      rw [e2, e]
      simpa [rowsB] using hb
  · intro a b ha hb
    cases rs with
    | nil => simp [rowsB] at ha
    | cons r rs =>
      have ha' : putB c r = a := by simpa [rowsB] using ha
      have hb' : putB c (r.shift t) = b := by simpa [rowsB] using hb
      subst ha'; subst hb'
      have h1 := h.1
      have h2 := h.2.1
      have s1 : secondN c (r.shift t) = secondN c r := rfl
      have s2 : tailB c (r.shift t) = tailB c r := rfl
      have f : firstN c r ≤ firstN c (r.shift t) := by
        unfold firstN
        show _ ≤ (4 * (r.tick + t - c.tick) + r.verdict).toNat
        omega
      have := digs_mono _ _ _ (Nat.le_refl _) f
      unfold putB
      rw [s1, s2]
      simp only [List.length_append]
      omega
theorem shift_take (t : Int) (rs : List Rec) (i : Nat) {x : Rec} (hx : rs[i]? = some x) : (rs.take (i + 1)).map (Rec.shift t) = (rs.take i).map (Rec.shift t) ++ [x.shift t] := by
  rw [take_succ_get hx, List.map_append]
  rfl
/-- A row of the call's own as an argument. -/
theorem RowN.recsArg {w : World} {A : Option Addr} {n k : Nat} {l : List Rec} (h : RowN w 34 4 A n k (recsV l)) (hl : l.length = n) (hk : ∀ r ∈ l, r.key.size ≤ maxLen) (hn : n * 40 ≤ 140737488351232) : RecsArg w A n k l := by
  refine ⟨hl, fun i r hr => ?_, hk, hn, ?_⟩
  · have hi := (List.getElem?_eq_some_iff.1 hr).1
    obtain ⟨g, rfl⟩ := h.some_of (by omega)
    refine ⟨g, 0, rfl, fun j v hj => ?_⟩
    have := h.cell (recsV_get hr hj)
    rwa [show 0 + (4 * i + j) = i * 4 + j by omega]
  · rcases h.form with ⟨_, rfl, rfl⟩ | ⟨_, _, _, _, h3, _⟩
    · exact Nat.le_refl _
    · exact h3
end Go.Proofs.Ytipiohkpdkandaa
