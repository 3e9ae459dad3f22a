/-
  Lists of records written by one coder, plainly. No program in sight. Conditions: none.
-/
import Derived.Test.YtipiohkpdkandaaRecO
namespace Go.Proofs.Ytipiohkpdkandaa
set_option linter.unusedVariables false
set_option linter.unusedSimpArgs false

/-- the coder behind a list of records, the bytes written, and whether each may be written -/
noncomputable def stC (c : CC) : List Rec → CC
  | [] => c
  | r :: rs => stC (putC c r) rs
noncomputable def stB (c : CC) : List Rec → List Int
  | [] => []
  | r :: rs => putB c r ++ stB (putC c r) rs
def okAll (c : CC) : List Rec → Prop
  | [] => True
  | r :: rs => r.ok ∧ c.tick ≤ r.tick ∧ okAll (putC c r) rs
theorem stC_snoc (rs : List Rec) (r : Rec) : ∀ c, stC c (rs ++ [r]) = putC (stC c rs) r := by
  induction rs with
  | nil => intro c; rfl
  | cons x rs ih => intro c; exact ih _
theorem stB_snoc (rs : List Rec) (r : Rec) : ∀ c, stB c (rs ++ [r]) = stB c rs ++ putB (stC c rs) r := by
  induction rs with
  | nil => intro c; simp [stB, stC]
  | cons x rs ih => intro c; show putB c x ++ stB (putC c x) (rs ++ [r]) = _; rw [ih]; simp [stB, stC]
theorem okAll_snoc (rs : List Rec) (r : Rec) : ∀ c, okAll c (rs ++ [r]) ↔ okAll c rs ∧ r.ok ∧ (stC c rs).tick ≤ r.tick := by
  induction rs with
  | nil => intro c; simp [okAll, stC]
  | cons x rs ih =>
    intro c
    show _ ∧ _ ∧ okAll (putC c x) (rs ++ [r]) ↔ _
    rw [ih]
    simp only [okAll, stC, and_assoc]
theorem stC_inv (rs : List Rec) : ∀ c, CInv c → okAll c rs → CInv (stC c rs) := by
  induction rs with
  | nil => intro c h _; exact h
  | cons x rs ih => intro c h ho; exact ih _ (h.put ho.1) ho.2.2
theorem stB_bytes (rs : List Rec) : ∀ c, Bytes (stB c rs) := by
  induction rs with
  | nil => intro c x hx; simp [stB] at hx
  | cons x rs ih => intro c; exact (putB_bytes c x).append (ih _)
theorem stB_append (rs rs' : List Rec) : ∀ c, stB c (rs ++ rs') = stB c rs ++ stB (stC c rs) rs' := by
  induction rs with
  | nil => intro c; simp [stB, stC]
  | cons x rs ih => intro c; show putB c x ++ stB (putC c x) (rs ++ rs') = _; rw [ih]; simp [stB, stC]
theorem okAll_append (rs rs' : List Rec) : ∀ c, okAll c (rs ++ rs') ↔ okAll c rs ∧ okAll (stC c rs) rs' := by
  induction rs with
  | nil => intro c; simp [okAll, stC]
  | cons x rs ih => intro c; show _ ∧ _ ∧ okAll (putC c x) (rs ++ rs') ↔ _; rw [ih]; simp only [okAll, stC, and_assoc]
/-- A record in the midst. -/
theorem mid_rec {c : CC} {rs : List Rec} (hok : okAll c rs) {i : Nat} {r : Rec} (hr : rs[i]? = some r) :
    okAll c (rs.take i) ∧ r.ok ∧ (stC c (rs.take i)).tick ≤ r.tick ∧ rs.take (i + 1) = rs.take i ++ [r] ∧ ∃ rest, stB c rs = stB c (rs.take i) ++ (putB (stC c (rs.take i)) r ++ rest) := by
  have hi := (List.getElem?_eq_some_iff.1 hr).1
  have hd : rs = rs.take i ++ r :: rs.drop (i + 1) := by
    conv => lhs; rw [← List.take_append_drop i rs]
    congr 1
    rw [List.drop_eq_getElem_cons hi]
    congr 1
    exact Option.some.inj ((List.getElem?_eq_getElem hi).symm.trans hr)
  have h1 := hok
  rw [hd, okAll_append] at h1
  obtain ⟨a1, a2, a3, a4⟩ := h1
  refine ⟨a1, a2, a3, take_succ_get hr, stB (putC (stC c (rs.take i)) r) (rs.drop (i + 1)), ?_⟩
  conv => lhs; rw [hd, stB_append]
  rfl
theorem stB_take_le (c : CC) (rs : List Rec) (i : Nat) : (stB c (rs.take i)).length ≤ (stB c rs).length := by
  conv => rhs; rw [← List.take_append_drop i rs, stB_append, List.length_append]
  omega
def recsV (rs : List Rec) : List Value := rs.flatMap Rec.cells
theorem recsV_snoc (rs : List Rec) (r : Rec) : recsV (rs ++ [r]) = recsV rs ++ r.cells := by simp [recsV]
theorem recsV_get {rs : List Rec} : ∀ {i : Nat} {r : Rec} {j : Nat} {v : Value}, rs[i]? = some r → r.cells[j]? = some v → (recsV rs)[i * 4 + j]? = some v := by
  induction rs with
  | nil => intro i r j v h; simp at h
  | cons x rs ih =>
    intro i r j v h hj
    have hx : x.cells.length = 4 := rfl
    show (x.cells ++ recsV rs)[i * 4 + j]? = some v
    cases i with
    | zero =>
      simp only [List.getElem?_cons_zero, Option.some.injEq] at h
      subst h
      have := (List.getElem?_eq_some_iff.1 hj).1
      rw [Nat.zero_mul, Nat.zero_add, List.getElem?_append_left this]
      exact hj
    | succ i =>
      rw [List.getElem?_append_right (by omega), show (i + 1) * 4 + j - x.cells.length = i * 4 + j by omega]
      exact ih (by simpa using h) hj
theorem recsV_oneCell (r : Rec) : ∀ u ∈ r.cells, u.oneCell' = true := by
  intro u hu
  simp [Rec.cells] at hu
  rcases hu with rfl | rfl | rfl | rfl <;> rfl
end Go.Proofs.Ytipiohkpdkandaa
