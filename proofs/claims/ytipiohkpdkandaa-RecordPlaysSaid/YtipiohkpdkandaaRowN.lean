/-
  Rows whose elements have several cells; 'append' of one element onto such a row. No program in sight. Conditions: none.
-/
import Derived.Test.YtipiohkpdkandaaLib
namespace Go.Proofs.Ytipiohkpdkandaa
set_option linter.unusedVariables false
set_option linter.unusedSimpArgs false
open Go.RowKit

/-- A slice that owns its block from the head on; each element has k cells. -/
structure RowN (w : World) (e : TypeId) (k : Nat) (A : Option Addr) (n c : Nat) (xs : List Value) : Prop where
  len : xs.length = n * k
  form : (A = none ∧ n = 0 ∧ c = 0) ∨ ∃ g cur, A = some ⟨g, 0, none⟩ ∧ w.heap[g]? = some (.cells cur e (0, 0)) ∧ n ≤ c ∧ c ≤ maxLen ∧ cur.size = c * k ∧ cur.toList.take (n * k) = xs
section
variable {w w' : World} {e : TypeId} {k : Nat} {A : Option Addr} {n c : Nat} {xs : List Value}
theorem RowN.nil (w : World) (e : TypeId) (k : Nat) : RowN w e k none 0 0 [] := ⟨by simp, .inl ⟨rfl, rfl, rfl⟩⟩
theorem RowN.lt (h : RowN w e k A n c xs) {g : Nat} (hg : blk A = some g) : g < w.heap.size := by
  rcases h.form with ⟨rfl, _⟩ | ⟨g', cur, rfl, h2, _⟩
  · cases hg
  · injection hg with hg
    subst hg
    exact (Array.getElem?_eq_some_iff.1 h2).1
theorem RowN.block (h : RowN w e k A n c xs) (hb : ∀ g, blk A = some g → w'.heap[g]? = w.heap[g]?) : RowN w' e k A n c xs := by
  refine ⟨h.len, ?_⟩
  rcases h.form with h1 | ⟨g, cur, rfl, h2, h3⟩
  · exact .inl h1
  · exact .inr ⟨g, cur, rfl, (hb g rfl).trans h2, h3⟩
theorem RowN.alloc (h : RowN w e k A n c xs) (o : Obj) : RowN (w.alloc o) e k A n c xs := h.block fun g hg => Below.heap_alloc _ _ _ (h.lt hg)
theorem RowN.kept {S : Nat → Prop} (h : RowN w e k A n c xs) (hu : Upd w w' S) (hn : ∀ g, blk A = some g → ¬ S g) : RowN w' e k A n c xs := h.block fun g hg => hu.block g (h.lt hg) (hn g hg)
theorem RowN.cell {g : Nat} (h : RowN w e k (some ⟨g, 0, none⟩) n c xs) {i : Nat} {u : Value} (hu : xs[i]? = some u) : w.cell? ⟨g, i, none⟩ = some u := by
  rcases h.form with ⟨h1, _⟩ | ⟨g', cur, h1, h2, h3, h4, h5, h6⟩
  · cases h1
  · injection h1 with h1
    injection h1 with h1
    subst h1
    rw [← h6, List.getElem?_take] at hu
    split at hu
    · simp [World.cell?, h2]
      simpa using hu
    · cases hu
theorem RowN.some_of (h : RowN w e k A n c xs) (hn : 0 < n) : ∃ g, A = some ⟨g, 0, none⟩ := by
  rcases h.form with ⟨_, h0, _⟩ | ⟨g, _, h0, _⟩
  · omega
  · exact ⟨g, h0⟩
end

section
variable {P : Program} {ops : Array Oper} {rest : List Oper} {o : Oper} {a : Act} {Q : Exit → Act → World → Prop}
theorem run_append_rowN {W : World} (ty t e : TypeId) (z : Value) (k bytes : Nat)
    (ht : P.underlying t = some (.slice e)) (hinfo : (P.info? e).map (fun i => (i.zero, i.size, i.bytes)) = some (some z, k, bytes)) (hz : z.cells.size = k) (hb0 : 0 < bytes) (hk0 : 0 < k)
    (A : Option Addr) (n c : Nat) (xs : List Value) (gb : Nat) (box : Array Value) (et : TypeId) (hbox : W.heap[gb]? = some (.cells box et (0, 0))) (hbs : box.size = k)
    (HO : RowN W e k A n c xs) (h1 : ∀ u ∈ box.toList, u.oneCell' = true) (hl : (n + 1) * bytes ≤ 140737488355328) :
    ∃ A1 c1 w1, (Builtin.append_ #[t, t] ty #[.slice A n c, .slice (some ⟨gb, 0, none⟩) 1 1]).run P W = .ok (.slice A1 (n + 1) c1) w1 ∧ RowN w1 e k A1 (n + 1) c1 (xs ++ box.toList) ∧ Grew W w1 A A1 c c1 := by
  obtain ⟨i0, hi, hzz⟩ := Option.map_eq_some_iff.1 hinfo
  simp only [Prod.mk.injEq] at hzz
  obtain ⟨hz0, hz1, hz2⟩ := hzz
  have hlen : n + 1 ≤ 140737488355328 := Nat.le_trans (Nat.le_mul_of_pos_right _ hb0) hl
  have hxl := HO.len
  have hyl : box.toList.length = k := by rw [Array.length_toList, hbs]
  have hc : ∀ j v, box.toList[j]? = some v → W.cell? ((⟨gb, 0, none⟩ : Addr).add j) = some v := by
    intro j v hj
    rw [addr_add]
    simp [World.cell?, hbox]
    simpa using hj
  have hge := grownCap_ge W (n + 1)
  have hcm := fun old => grownCap_le_maxLen W (n + 1) old e (by simp only [maxLen]; omega)
  have grown : ∀ old, RowN (W.drew.alloc (.cells (xs.toArray ++ box.toList.toArray ++ Builtin.zeroCells z.cells (grownCap W (n + 1) old e - (n + 1))) e)) e k (some ⟨W.heap.size, 0, none⟩) (n + 1) (grownCap W (n + 1) old e) (xs ++ box.toList) := by
    intro old
    have h3 := hge old e
    have hll : (xs ++ box.toList).length = (n + 1) * k := by rw [List.length_append, hxl, hyl, Nat.add_mul, Nat.one_mul]
    refine ⟨hll, .inr ⟨_, _, rfl, heap_alloc_new W.drew _, h3, hcm old, ?_, ?_⟩⟩
    · obtain ⟨d, hd⟩ : ∃ d, grownCap W (n + 1) old e = n + 1 + d := ⟨grownCap W (n + 1) old e - (n + 1), by omega⟩
      rw [hd]
      simp only [Array.size_append, List.size_toArray, size_zeroCells, hz, hxl, hyl]
      rw [Nat.add_sub_cancel_left, Nat.add_mul, Nat.add_mul, Nat.one_mul]
    · rw [← hll]
      simp only [Array.toList_append]
      exact List.take_left
  have upd : ∀ o, Upd W (W.drew.alloc o) (fun _ => False) := fun o => ((Upd.refl W _).drew).alloc o
  rcases HO.form with ⟨rfl, rfl, rfl⟩ | ⟨g, cur, rfl, h2, h3, h4, h5, h6⟩
  · have hx : xs = [] := List.eq_nil_of_length_eq_zero (by rw [hxl, Nat.zero_mul])
    subst hx
    have hr := run_append_nil (P := P) W t ty e i0 z ht hi hz0 ⟨gb, 0, none⟩ 1 1 box.toList (by rw [hz1, hyl, Nat.one_mul]) hc (by omega) (by omega) (by rw [hz2]; have h := hl; rw [Nat.zero_add] at h; omega)
    have hg := grown 0
    simp only [Nat.zero_add, List.nil_append, Array.empty_append] at hg ⊢
    exact ⟨_, _, _, hr, hg, .inr ⟨rfl, upd _⟩⟩
  · have hck : n * k ≤ c * k := Nat.mul_le_mul_right _ h3
    by_cases hroom : n + 1 ≤ c
    · have hck1 : (n + 1) * k ≤ c * k := Nat.mul_le_mul_right _ hroom
      rw [Nat.add_mul, Nat.one_mul] at hck1
      have hr := run_append_room (P := P) W t ty e i0 ht hi g n c cur h2 ⟨gb, 0, none⟩ 1 1 box.toList (by rw [hz1, hyl, Nat.one_mul]) hc h1 hroom (by rw [hz1, hyl]; omega)
      rw [hz1] at hr
      have hll : (xs ++ box.toList).length = (n + 1) * k := by rw [List.length_append, hxl, hyl, Nat.add_mul, Nat.one_mul]
      refine ⟨_, _, _, hr, ⟨hll, .inr ⟨_, _, rfl, setRow_heap W g cur _ e _ h2, hroom, h4, ?_, ?_⟩⟩, .inl ⟨rfl, rfl, rfl, rfl, rfl, by simp, fun j _ hj => setRow_other W g j _ fun h => hj (by rw [h]; rfl)⟩⟩
      · simp only [List.size_toArray, List.length_append, List.length_take, List.length_drop, Array.length_toList, hbs, h5]
        omega
      · show List.take ((n + 1) * k) (cur.toList.take (n * k) ++ box.toList ++ cur.toList.drop (n * k + box.toList.length)) = _
        rw [h6, ← hll]
        exact List.take_left
    · have holds : ∀ j v, xs[j]? = some v → W.cell? ((⟨g, 0, none⟩ : Addr).add j) = some v := fun j v hj => by rw [addr_add]; exact HO.cell hj
      have hr := run_append_grow (P := P) W t ty e i0 z ht hi hz0 ⟨g, 0, none⟩ n c xs (by rw [hz1]; exact hxl) holds ⟨gb, 0, none⟩ 1 1 box.toList (by rw [hz1, hyl, Nat.one_mul]) hc (by omega) (by omega) (by rw [hz2]; exact growslice_fits (by omega) hl)
      exact ⟨_, _, _, hr, grown c, .inr ⟨rfl, upd _⟩⟩
/-- 'append(v, y)': the world ahead is 'W.alloc' of y's box. -/
theorem rowN_append1 {W : World} (hgd : o.guard = none) (s x : Operand) (t e : TypeId) (z : Value) (k bytes : Nat)
    (ho : o.op = .call { callee := .builtin .append, args := #[s, x], argTypes := #[t, t] })
    (ht : P.underlying t = some (.slice e)) (hinfo : (P.info? e).map (fun i => (i.zero, i.size, i.bytes)) = some (some z, k, bytes)) (hz : z.cells.size = k) (hb0 : 0 < bytes) (hk0 : 0 < k)
    (A : Option Addr) (n c : Nat) (xs : List Value) (box : Array Value) (hbs : box.size = k) (hs : a.eval s = .slice A n c) (hx : a.eval x = .slice (some ⟨W.heap.size, 0, none⟩) 1 1)
    (HO : RowN W e k A n c xs) (h1 : ∀ u ∈ box.toList, u.oneCell' = true) (hl : (n + 1) * bytes ≤ 140737488355328)
    (h : ∀ A1 c1 w1, RowN w1 e k A1 (n + 1) c1 (xs ++ box.toList) → Upd W w1 (fun j => blk A = some j) → (blk A1 = blk A ∨ ∃ b, blk A1 = some b ∧ W.heap.size ≤ b) → wpList P ops Q rest (a.put o.dst (.slice A1 (n + 1) c1)) w1) :
    wpList P ops Q (o :: rest) a (W.alloc (.cells box e)) := by
  obtain ⟨A1, c1, w1, hr, h2, h3⟩ := run_append_rowN (P := P) o.type t e z k bytes ht hinfo hz hb0 hk0 A n c xs W.heap.size box e (heap_alloc_new W _) hbs (HO.alloc _) h1 hl
  refine wpList_plain hgd fun K hK' => ?_
  unfold Oper.wp
  simp [execOp, ho, resolve, invoke, builtin, hs, hx, hr, Result.andThen]
  refine hK' _ _ (h A1 c1 w1 h2 (((Upd.refl W _).alloc _).trans h3.upd (fun _ _ h => h)) ?_)
  rcases h3.at with h4 | h4
  · exact .inl h4
  · exact .inr ⟨_, h4, by simp⟩
end
end Go.Proofs.Ytipiohkpdkandaa
