/-
  A map from strings to numbers, block by block: what it holds, looked up, stored into, deleted from, cloned. No program in sight. Conditions: none.
-/
import Derived.Test.YtipiohkpdkandaaLib
import Derived.Maps.Keyed
import Derived.MapKept
import Derived.Maps.OwnSet
import Derived.Laws.Externs
namespace Go.Proofs.Ytipiohkpdkandaa
set_option linter.unusedVariables false
set_option linter.unusedSimpArgs false
open Go.RowKit
open Go.Maps (Keyed string_keyed)
open Go.WideMaps (keyOf_string_mk)

/-- Block M is a map that holds v at k just where R k v. -/
structure MapIs (w : World) (M : Nat) (R : ByteArray → Nat → Prop) : Prop where
  out : ∃ es clock, w.heap[M]? = some (.map es clock) ∧ (∀ e ∈ es.toList, ∃ (k : ByteArray) (v : Nat), e.key = .string k ∧ k.size ≤ maxLen ∧ e.val = .int .i64 v) ∧ es.toList.Pairwise (fun a b => a.key ≠ b.key) ∧
    ∀ (k : ByteArray) (v : Nat), (∃ e ∈ es.toList, e.key = .string k ∧ e.val = .int .i64 v) ↔ R k v

section
variable {P : Program} {w : World} {M : Nat} {R : ByteArray → Nat → Prop}

theorem MapIs.made (w : World) : MapIs (w.alloc (.map #[] 0)) w.heap.size (fun _ _ => False) :=
  ⟨#[], 0, (MapKept.heap_alloc w _).1, by simp, by simp, by simp⟩
theorem MapIs.congr (h : MapIs w M R) {R' : ByteArray → Nat → Prop} (e : ∀ k v, R k v ↔ R' k v) : MapIs w M R' := by
  obtain ⟨es, clock, h1, h2, h3, h4⟩ := h.out
  exact ⟨es, clock, h1, h2, h3, fun k v => (h4 k v).trans (e k v)⟩
theorem MapIs.lt (h : MapIs w M R) : M < w.heap.size := by
  obtain ⟨es, clock, h1, _⟩ := h.out
  exact (Array.getElem?_eq_some_iff.1 h1).1
theorem MapIs.block {w' : World} (h : MapIs w M R) (e : w'.heap[M]? = w.heap[M]?) : MapIs w' M R := by
  obtain ⟨es, clock, h1, r⟩ := h.out
  exact ⟨es, clock, e.trans h1, r⟩
theorem MapIs.kept {w' : World} {S : Nat → Prop} (h : MapIs w M R) (hu : Upd w w' S) (hn : ¬ S M) : MapIs w' M R := h.block (hu.block M h.lt hn)
theorem MapIs.alloc (h : MapIs w M R) (o : Obj) : MapIs (w.alloc o) M R := h.block (Below.heap_alloc _ _ _ h.lt)
theorem MapIs.clone {es : Array MapEntry} {clock : Nat} (h : MapIs w M R) (e : w.heap[M]? = some (.map es clock)) : MapIs (w.alloc (.map es clock)) w.heap.size R := by
  obtain ⟨es', clock', h1, r⟩ := h.out
  obtain ⟨rfl, rfl⟩ : es = es' ∧ clock = clock' := by rw [e] at h1; injection h1 with h1; injection h1 with h1 h2; exact ⟨h1, h2⟩
  exact ⟨es, clock, (MapKept.heap_alloc w _).1, r⟩
theorem MapIs.no_cells (h : MapIs w M R) {cs : Array Value} {t : TypeId} {fr : Nat × Nat} : w.heap[M]? ≠ some (.cells cs t fr) := by
  obtain ⟨es, clock, h1, _⟩ := h.out
  rw [h1]; simp

/-- What a look-up finds. -/
theorem MapIs.find (h : MapIs w M R) {es : Array MapEntry} {clock : Nat} (hb : w.heap[M]? = some (.map es clock)) {kt : TypeId} (hk : P.underlying kt = some .string) {k : ByteArray} (hs : k.size ≤ maxLen) :
    ((∀ v, ¬ R k v) ∧ (Instr.findKey kt (.string k) es.toList).run P w = .ok none w ∧ ∀ e ∈ es.toList, e.key ≠ .string k) ∨
    ∃ (v j : Nat) (e : MapEntry), R k v ∧ (Instr.findKey kt (.string k) es.toList).run P w = .ok (some (j, .int .i64 v)) w ∧ es.toList[j]? = some e ∧ e.key = .string k := by
  obtain ⟨es', clock', h1, h2, h3, h4⟩ := h.out
  obtain ⟨rfl, rfl⟩ : es = es' ∧ clock = clock' := by rw [hb] at h1; injection h1 with h1; injection h1 with h1 h2; exact ⟨h1, h2⟩
  have K := string_keyed (P := P) hk
  rcases K.find w (keyOf_string_mk hk hs) es.toList (fun e he => by
    obtain ⟨k', v', e1, e2, _⟩ := h2 e he
    exact ⟨_, by rw [e1]; exact keyOf_string_mk hk e2⟩) with ⟨f1, f2⟩ | ⟨j, e, f1, f2, f3⟩
  · left
    refine ⟨fun v hv => ?_, f1, f2⟩
    obtain ⟨e, he, e1, _⟩ := (h4 k v).2 hv
    exact f2 e he e1
  · right
    have hm : e ∈ es.toList := List.mem_of_getElem? f2
    obtain ⟨k', v', e1, e2, e3⟩ := h2 e hm
    exact ⟨v', j, e, (h4 k v').1 ⟨e, hm, f3, e3⟩, by rw [← e3]; exact f1, f2, f3⟩
theorem MapIs.func (h : MapIs w M R) {k : ByteArray} {v v' : Nat} (h1 : R k v) (h2 : R k v') : v = v' := by
  obtain ⟨es, clock, _, _, h3, h4⟩ := h.out
  obtain ⟨e, he, e1, e2⟩ := (h4 k v).2 h1
  obtain ⟨e', he', e1', e2'⟩ := (h4 k v').2 h2
  obtain ⟨i, hi⟩ := List.getElem?_of_mem he
  obtain ⟨j, hj⟩ := List.getElem?_of_mem he'
  obtain ⟨hi1, hi2⟩ := List.getElem?_eq_some_iff.1 hi
  obtain ⟨hj1, hj2⟩ := List.getElem?_eq_some_iff.1 hj
  have hij : i = j := by
    rcases Nat.lt_trichotomy i j with h | h | h
    · exact absurd (by rw [hi2, hj2, e1, e1']) (List.pairwise_iff_getElem.1 h3 i j hi1 hj1 h)
    · exact h
    · exact absurd (by rw [hi2, hj2, e1, e1']) (List.pairwise_iff_getElem.1 h3 j i hj1 hi1 h)
  subst hij
  rw [hi] at hj
  injection hj with hj
  subst hj
  rw [e2] at e2'
  injection e2' with _ e2'
  omega

variable {t kt et : TypeId}
theorem MapIs.look_some (h : MapIs w M R) (ht : P.underlying t = some (.map kt et)) (hk : P.underlying kt = some .string) {k : ByteArray} (hs : k.size ≤ maxLen) {v : Nat} (hv : R k v) :
    (Instr.lookup t (.map (some M)) (.string k) true).run P w = .ok (.tuple #[.int .i64 v, .bool true]) w := by
  obtain ⟨es, clock, h1, _⟩ := h.out
  have K := string_keyed (P := P) hk
  rcases h.find h1 hk hs with ⟨f, _⟩ | ⟨v', j, e, f1, f2, _⟩
  · exact absurd hv (f v)
  · obtain rfl := h.func hv f1
    simp [Instr.lookup, run_underlying ht, MapKept.run_getObj_map h1, K.check w _ (keyOf_string_mk hk hs), f2, Result.andThen]
theorem MapIs.look_none (h : MapIs w M R) (ht : P.underlying t = some (.map kt et)) (hk : P.underlying kt = some .string) (hz : (zeroValue et).run P w = .ok (.int .i64 0) w) {k : ByteArray} (hs : k.size ≤ maxLen) (hv : ∀ v, ¬ R k v) :
    (Instr.lookup t (.map (some M)) (.string k) true).run P w = .ok (.tuple #[.int .i64 0, .bool false]) w := by
  obtain ⟨es, clock, h1, _⟩ := h.out
  have K := string_keyed (P := P) hk
  rcases h.find h1 hk hs with ⟨_, f, _⟩ | ⟨v', j, e, f1, f2, _⟩
  · simp [Instr.lookup, run_underlying ht, MapKept.run_getObj_map h1, K.check w _ (keyOf_string_mk hk hs), f, hz, Result.andThen]
  · exact absurd f1 (hv v')
theorem MapIs.update (h : MapIs w M R) (ht : P.underlying t = some (.map kt et)) (hk : P.underlying kt = some .string) {k : ByteArray} (hs : k.size ≤ maxLen) (v : Nat) (hv : ∀ v, ¬ R k v) :
    ∃ w', (Instr.mapUpdate t (.map (some M)) (.string k) (.int .i64 v)).run P w = .ok () w' ∧ MapIs w' M (fun k' v' => R k' v' ∨ (k' = k ∧ v' = v)) ∧ Upd w w' (fun b => b = M) := by
  obtain ⟨es, clock, h1, h2, h3, h4⟩ := h.out
  have K := string_keyed (P := P) hk
  rcases h.find h1 hk hs with ⟨_, f, f2⟩ | ⟨v', j, e, f1, _⟩
  · refine ⟨ChangeMaps.setBlock w M (.map (es.push { key := .string k, val := .int .i64 v, born := clock }) (clock + 1)), by simp [ChangeMaps.setBlock, Instr.mapUpdate, run_underlying ht, MapKept.run_getObj_map h1, K.check w _ (keyOf_string_mk hk hs), f, MapKept.run_setObj_map _ h1, Result.andThen], ⟨es.push { key := .string k, val := .int .i64 v, born := clock }, clock + 1, ?_, ?_, ?_, ?_⟩, ⟨rfl, rfl, rfl, by simp [ChangeMaps.setBlock], fun b hb hn => ?_⟩⟩
    · exact ChangeMaps.heap_setBlock_same h1 _
    · intro e he
      rw [Array.toList_push] at he
      rcases List.mem_append.1 he with he | he
      · exact h2 e he
      · obtain rfl := List.mem_singleton.1 he
        exact ⟨k, v, rfl, hs, rfl⟩
    · rw [Array.toList_push]
      refine List.pairwise_append.2 ⟨h3, by simp, fun a ha b hb => ?_⟩
      obtain rfl := List.mem_singleton.1 hb
      exact f2 a ha
    · intro k' v'
      rw [← h4 k' v', Array.toList_push]
      constructor
      · rintro ⟨e, he, e1, e2⟩
        rcases List.mem_append.1 he with he | he
        · exact .inl ⟨e, he, e1, e2⟩
        · obtain rfl := List.mem_singleton.1 he
          injection e1 with e1
          injection e2 with _ e2
          exact .inr ⟨e1.symm, by omega⟩
      · rintro (⟨e, he, e1, e2⟩ | ⟨rfl, rfl⟩)
        · exact ⟨e, List.mem_append_left _ he, e1, e2⟩
        · exact ⟨_, List.mem_append_right _ (List.mem_singleton.2 rfl), rfl, rfl⟩
    · exact ChangeMaps.heap_setBlock_other h1 _ hn
  · exact absurd f1 (hv v')
theorem MapIs.delete (h : MapIs w M R) (ht : P.underlying t = some (.map kt et)) (hk : P.underlying kt = some .string) {k : ByteArray} (hs : k.size ≤ maxLen) {v : Nat} (hv : R k v) (ty : TypeId) :
    ∃ w', (Builtin.delete_ #[t, kt] ty #[.map (some M), .string k]).run P w = .ok (.tuple #[]) w' ∧ MapIs w' M (fun k' v' => R k' v' ∧ k' ≠ k) ∧ Upd w w' (fun b => b = M) := by
  obtain ⟨es, clock, h1, h2, h3, h4⟩ := h.out
  have K := string_keyed (P := P) hk
  rcases h.find h1 hk hs with ⟨f, _⟩ | ⟨v', j, e, f1, f2, f3, f4⟩
  · exact absurd hv (f v)
  · obtain ⟨hj, hje⟩ := List.getElem?_eq_some_iff.1 f3
    have hlist : (es.eraseIdxIfInBounds j).toList = es.toList.eraseIdx j := by
      rw [Array.eraseIdxIfInBounds]
      have hj' : j < es.size := by simpa using hj
      rw [dif_pos hj', Array.toList_eraseIdx]
    have hmem : ∀ x, x ∈ es.toList.eraseIdx j ↔ x ∈ es.toList ∧ x.key ≠ .string k := by
      intro x
      rw [List.mem_eraseIdx_iff_getElem]
      constructor
      · rintro ⟨i, hi, hne, rfl⟩
        refine ⟨List.getElem_mem hi, fun hk2 => ?_⟩
        rcases Nat.lt_or_gt_of_ne hne with hlt | hlt
        · exact List.pairwise_iff_getElem.1 h3 i j hi hj hlt (by rw [hk2, hje, f4])
        · exact List.pairwise_iff_getElem.1 h3 j i hj hi hlt (by rw [hk2, hje, f4])
      · rintro ⟨hx, hne⟩
        obtain ⟨i, hi, rfl⟩ := List.getElem_of_mem hx
        exact ⟨i, hi, fun hij => hne (by subst hij; rw [hje, f4]), rfl⟩
    refine ⟨ChangeMaps.setBlock w M (.map (es.eraseIdxIfInBounds j) clock), by simp [ChangeMaps.setBlock, Builtin.delete_, run_underlying ht, MapKept.run_getObj_map h1, K.check w _ (keyOf_string_mk hk hs), f2, MapKept.run_setObj_map _ h1, Result.andThen], ⟨es.eraseIdxIfInBounds j, clock, ?_, ?_, ?_, ?_⟩, ⟨rfl, rfl, rfl, by simp [ChangeMaps.setBlock], fun b hb hn => ?_⟩⟩
    · exact ChangeMaps.heap_setBlock_same h1 _
    · intro x hx
      rw [hlist] at hx
      exact h2 x ((hmem x).1 hx).1
    · rw [hlist]
      exact h3.sublist (List.eraseIdx_sublist _ _)
    · intro k' v'
      rw [← h4 k' v', hlist]
      constructor
      · rintro ⟨x, hx, e1, e2⟩
        obtain ⟨hx1, hx2⟩ := (hmem x).1 hx
        exact ⟨⟨x, hx1, e1, e2⟩, fun hkk => hx2 (by rw [e1, hkk])⟩
      · rintro ⟨⟨x, hx, e1, e2⟩, hne⟩
        exact ⟨x, (hmem x).2 ⟨hx, fun hkk => hne (by rw [e1] at hkk; injection hkk)⟩, e1, e2⟩
    · exact ChangeMaps.heap_setBlock_other h1 _ hn
end

section
variable {P : Program} {ops : Array Oper} {rest : List Oper} {o : Oper} {a : Act} {Q : Exit → Act → World → Prop}
/-- 'm[k] = v' at a key that it does not hold. -/
theorem map_put {w : World} (hgd : o.guard = none) (m x v : Operand) (t : TypeId) (hop : o.op = Op.mapUpdate t m x v) {kt et : TypeId} (ht : P.underlying t = some (.map kt et)) (hk : P.underlying kt = some .string)
    (M : Nat) (R : ByteArray → Nat → Prop) (hm : a.eval m = .map (some M)) (H : MapIs w M R) (k : ByteArray) (hx : a.eval x = .string k) (hs : k.size ≤ maxLen) (vv : Nat) (hv : a.eval v = .int .i64 vv) (hno : ∀ v, ¬ R k v)
    (h : ∀ w', MapIs w' M (fun k' v' => R k' v' ∨ (k' = k ∧ v' = vv)) → Upd w w' (fun b => b = M) → wpList P ops Q rest (a.put o.dst undef) w') : wpList P ops Q (o :: rest) a w := by
  refine wpList_plain hgd fun K' hK' => ?_
  obtain ⟨w', hrun, r1, r2⟩ := H.update ht hk hs vv hno
  unfold Oper.wp
  simp [execOp, hop, hm, hx, hv, hrun, Result.andThen]
  exact hK' _ _ (h w' r1 r2)
/-- 'delete(m, k)' at a key that it holds. -/
theorem map_del {w : World} (hgd : o.guard = none) (m x : Operand) (t kt : TypeId) (hop : o.op = Op.call { callee := Callee.builtin Builtin.delete, args := #[m, x], argTypes := #[t, kt] }) {et : TypeId} (ht : P.underlying t = some (.map kt et)) (hk : P.underlying kt = some .string)
    (M : Nat) (R : ByteArray → Nat → Prop) (hm : a.eval m = .map (some M)) (H : MapIs w M R) (k : ByteArray) (hx : a.eval x = .string k) (hs : k.size ≤ maxLen) (vv : Nat) (hv : R k vv)
    (h : ∀ w', MapIs w' M (fun k' v' => R k' v' ∧ k' ≠ k) → Upd w w' (fun b => b = M) → wpList P ops Q rest (a.put o.dst (.tuple #[])) w') : wpList P ops Q (o :: rest) a w := by
  refine wpList_plain hgd fun K' hK' => ?_
  obtain ⟨w', hrun, r1, r2⟩ := H.delete ht hk hs hv o.type
  unfold Oper.wp
  simp [execOp, hop, resolve, invoke, builtin, hm, hx, hrun, Result.andThen]
  exact hK' _ _ (h w' r1 r2)
end
end Go.Proofs.Ytipiohkpdkandaa
