/-
  'append(b, s...)', s a string, onto an owned row. No program in sight. Conditions: none.
-/
import Derived.Test.YtipiohkpdkandaaLib
import Derived.Lib.AppendStr
namespace Go.Proofs.Ytipiohkpdkandaa
set_option linter.unusedVariables false
set_option linter.unusedSimpArgs false
open Go.RowKit
section
variable {P : Program} {ops : Array Oper} {rest : List Oper} {o : Oper} {a : Act} {Q : Exit → Act → World → Prop}
open Go.Lib in
theorem run_append_row_str {W : World} (ty t u e : TypeId)
    (ht : P.underlying t = some (.slice e)) (hu : P.underlying u = some .string) (hinfo : (P.info? e).map (fun i => (i.zero, i.size, i.bytes)) = some (some (.int .u8 0), 1, 1))
    (A : Option Addr) (n c : Nat) (xs : List Value) (s : ByteArray) (HO : Row W e A n c xs) (hl : n + s.size ≤ 140737488355328) :
    ∃ A1 c1 w1, (Builtin.append_ #[t, u] ty #[.slice A n c, .string s]).run P W = .ok (.slice A1 (n + s.size) c1) w1 ∧ Row w1 e A1 (n + s.size) c1 (xs ++ strCells s) ∧ Grew W w1 A A1 c c1 := by
  obtain ⟨i, hi, hzz⟩ := Option.map_eq_some_iff.1 hinfo
  simp only [Prod.mk.injEq] at hzz
  obtain ⟨hz, hsize, hby⟩ := hzz
  have hxl := HO.len
  have hge := grownCap_ge W (n + s.size)
  have hcm := fun old => grownCap_le_maxLen W (n + s.size) old e (by simp only [maxLen]; omega)
  have grown : ∀ old, Row (W.drew.alloc (.cells (xs.toArray ++ (strCells s).toArray ++ Builtin.zeroCells (Value.int .u8 0).cells (grownCap W (n + s.size) old e - (n + s.size))) e)) e (some ⟨W.heap.size, 0, none⟩) (n + s.size) (grownCap W (n + s.size) old e) (xs ++ strCells s) := by
    intro old
    have h3 := hge old e
    refine Row.of (heap_alloc_new W.drew _) h3 (hcm old) ?_ ?_
    · have hz1 : (Value.int IntKind.u8 0).cells.size = 1 := rfl
      simp only [Array.size_append, List.size_toArray, size_zeroCells, hz1, hxl, strCells_length]; omega
    · have hll : (xs ++ strCells s).length = n + s.size := by simp [strCells_length]; omega
      rw [← hll]
      simp only [Array.toList_append]
      exact List.take_left
  have upd : ∀ o, Upd W (W.drew.alloc o) (fun _ => False) := fun o => ((Upd.refl W _).drew).alloc o
  rcases HO.form with ⟨rfl, rfl, rfl⟩ | ⟨g, cur, rfl, h2, h3, h4, h5, h6⟩
  · have hx : xs = [] := List.eq_nil_of_length_eq_zero hxl
    subst hx
    by_cases hm : s.size = 0
    · have hn : strCells s = [] := List.eq_nil_of_length_eq_zero (by rw [strCells_length]; exact hm)
      have hf := run_firstCells_string (P := P) W 1 s
      rw [hm] at hf
      refine ⟨none, 0, W, ?_, by rw [hm, hn]; exact Row.nil _ _, .inl ⟨rfl, rfl, Upd.refl _ _⟩⟩
      simp [Builtin.append_, run_underlying ht, run_underlying hu, sizeOf, typeInfo, hi, hsize, Builtin.lenOf, hm, hf]
    · have hr := run_append_nil_string (P := P) W t u ty e i (.int .u8 0) ht hu hi hz s (by omega) (by omega) (by rw [hby]; omega)
      have hgr := grown 0
      simp only [Nat.zero_add, List.nil_append, Array.empty_append] at hgr ⊢
      have e1 : (s.data.map fun b => Value.int .u8 b.toNat) = (strCells s).toArray := by
        apply Array.ext'
        simp [strCells]
      rw [e1] at hr
      exact ⟨_, _, _, hr, hgr, .inr ⟨rfl, upd _⟩⟩
  · by_cases hroom : n + s.size ≤ c
    · have hr := run_append_room_string (P := P) W t u ty e i ht hu hi hsize g n c cur h2 s hroom (by omega)
      refine ⟨_, _, _, hr, Row.of (setRow_heap W g cur _ e _ h2) hroom h4 ?_ ?_, .inl ⟨rfl, rfl, rfl, rfl, rfl, by simp, fun k _ hk => setRow_other W g k _ fun h => hk (by rw [h]; rfl)⟩⟩
      · simp only [List.size_toArray, List.length_append, List.length_take, List.length_drop, Array.length_toList, strCells_length]; omega
      · have hll : (xs ++ strCells s).length = n + s.size := by simp [strCells_length]; omega
        rw [h6, ← hll]
        exact List.take_left
    · have holds := HO.own.cells (g := g) rfl
      have hr := run_append_grow_string (P := P) W t u ty e i (.int .u8 0) ht hu hi hz ⟨g, 0, none⟩ n c xs (by rw [hsize]; omega) holds s (by omega) (by omega) (by rw [hby]; exact growslice_fits (by omega) (by omega))
      exact ⟨_, _, _, hr, grown c, .inr ⟨rfl, upd _⟩⟩
theorem row_append_str {W : World} (hgd : o.guard = none) (sl x : Operand) (t u e : TypeId)
    (ho : o.op = .call { callee := .builtin .append, args := #[sl, x], argTypes := #[t, u] })
    (ht : P.underlying t = some (.slice e)) (hu : P.underlying u = some .string) (hinfo : (P.info? e).map (fun i => (i.zero, i.size, i.bytes)) = some (some (.int .u8 0), 1, 1))
    (A : Option Addr) (n c : Nat) (xs : List Value) (s : ByteArray) (hs : a.eval sl = .slice A n c) (hx : a.eval x = .string s)
    (HO : Row W e A n c xs) (hl : n + s.size ≤ 140737488355328)
    (h : ∀ A1 c1 w1, Row w1 e A1 (n + s.size) c1 (xs ++ Go.Lib.strCells s) → Grew W w1 A A1 c c1 → wpList P ops Q rest (a.put o.dst (.slice A1 (n + s.size) c1)) w1) :
    wpList P ops Q (o :: rest) a W := by
  obtain ⟨A1, c1, w1, hr, h2, h3⟩ := run_append_row_str (P := P) o.type t u e ht hu hinfo A n c xs s HO hl
  refine wpList_plain hgd fun K hK' => ?_
  unfold Oper.wp
  simp [execOp, ho, resolve, invoke, builtin, hs, hx, hr, Result.andThen]
  exact hK' _ _ (h A1 c1 w1 h2 h3)
end
end Go.Proofs.Ytipiohkpdkandaa
